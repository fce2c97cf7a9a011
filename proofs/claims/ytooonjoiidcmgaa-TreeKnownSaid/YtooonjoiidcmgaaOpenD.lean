/- What a list of Dos reads as: pairs of numbers. -/
import Derived.Test.YtooonjoiidcmgaaOpen
import Derived.Test.YtooonjoiidcmgaaTreeI
import Derived.Deep.SlicePairs
namespace Go.Proofs.Ytooonjoiidcmgaa
open Go.ChangeShapes Go.WideShapes Go.ChangeAt Go.RowKit Go.Deep

theorem dos_of {H : Type} {enc : TypeId × Value → H} {W : World} {held : Bool} {fuel : Nat} {a : Option Addr} {len cap : Nat} {x : DataW H × List MemPlace} (h : DataW.trod enc Try.prog W 0 (fun _ => true) held fuel 36 [.slice a len cap] = some x) :
    ∃ D : Nat → Int × Int, len ≤ cap ∧ cap ≤ maxLen ∧ DoAt W.heap.size W a len D := by
  rcases open_slice_pairs Try.underlying36 Try.underlying42 (by kernel_rfl) rfl rfl (by kernel_rfl) (by kernel_rfl) h with ⟨hcs, hx⟩ | ⟨ad, l, c, m, n, V0, V1, D0, D1, P0, P1, hcs, _, hl, hm, hmm, hx, hcell⟩
  · simp only [List.cons.injEq, Value.slice.injEq, and_true] at hcs
    obtain ⟨rfl, rfl, rfl⟩ := hcs
    exact ⟨fun _ => (0, 0), Nat.le_refl _, Nat.zero_le _, fun j hj => absurd hj (Nat.not_lt_zero _)⟩
  · simp only [List.cons.injEq, Value.slice.injEq, and_true] at hcs
    obtain ⟨rfl, rfl, rfl⟩ := hcs
    simp only [if_true] at hmm
    subst hmm
    have key : ∀ i, i < m → ∃ d : Int × Int, W.cell? (ad.add (i * 2)) = some (.int .i64 d.1) ∧ W.cell? (ad.add (i * 2 + 1)) = some (.int .i64 d.2) := by
      intro i hi
      obtain ⟨c0, c1, h0, h1⟩ := hcell i hi
      obtain ⟨z0, e0, _⟩ := DataW.trod_int Try.underlying3 h0
      obtain ⟨z1, e1, _⟩ := DataW.trod_int Try.underlying3 h1
      simp only [List.cons.injEq, and_true] at e0 e1
      exact ⟨(z0, z1), by rw [c0, e0], by rw [c1, e1]⟩
    refine ⟨fun j => if hj : j < m then (key j hj).choose else (0, 0), hl, hm, fun j hj => ?_⟩
    have h0 := (key 0 (by omega)).choose_spec.1
    have e := addr_plain (show W.cell? ad = _ by simpa [Addr.add] using h0)
    have hc := (key j (by omega)).choose_spec
    simp only [dif_pos (show j < m by omega)]
    generalize (key j (by omega)).choose = d at hc ⊢
    obtain ⟨c1, c2⟩ := hc
    rw [e, add_plain] at c1 c2
    exact ⟨ad.block, ad.off, by rw [← e], World.block_lt_of_cell? W ⟨ad.block, ad.off + j * 2, none⟩ c1, c1, c2⟩
end Go.Proofs.Ytooonjoiidcmgaa
