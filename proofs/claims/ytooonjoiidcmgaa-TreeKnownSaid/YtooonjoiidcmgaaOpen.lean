/- What the arguments of the statements read as: lists of bools, of numbers. -/
import Derived.Test.YtooonjoiidcmgaaLawA
import Derived.Test.YtooonjoiidcmgaaRows
import Derived.ProofKit
import Derived.OpenShut
import Derived.ShutString
import Derived.ChangeOld
import Derived.Below
import Derived.Deep.Grids
import Derived.JoinedCond
namespace Go.Proofs.Ytooonjoiidcmgaa
open Go.ChangeShapes Go.WideShapes Go.ChangeAt Go.RowKit Go.Deep

theorem own : ownKnob Try.prog.godebug = none := by kernel_rfl
theorem laidOut : laidOutB Try.prog = true := by kernel_rfl

theorem addr_plain {w : World} {a : Addr} {v : Value} (h : w.cell? a = some v) : a = ⟨a.block, a.off, none⟩ := by
  have := World.cell?_spot h
  cases a; simp at this; subst this; rfl
theorem add_plain (b off j : Nat) : (⟨b, off, none⟩ : Addr).add j = ⟨b, off + j, none⟩ := by
  unfold Addr.add; split
  · rename_i h; subst h; rfl
  · rfl

section
variable {H : Type} {enc : TypeId × Value → H} {W : World} {held : Bool}

theorem bools_of {fuel : Nat} {a : Option Addr} {len cap : Nat} {x : DataW H × List MemPlace} (h : DataW.trod enc Try.prog W 0 (fun _ => true) held fuel 22 [.slice a len cap] = some x) :
    ∃ bs : List Bool, bs.length = len ∧ len ≤ cap ∧ cap ≤ maxLen ∧ Bools W.heap.size W (.slice a len cap) bs ∧ len ≤ Rows.uptoBulk x.1 := by
  rcases open_bools Try.underlying22 Try.underlying4 (by kernel_rfl) h with ⟨hcs, hx⟩ | ⟨ad, l, c, B, hcs, _, hl, hm, hx, hcell⟩
  · simp only [List.cons.injEq, Value.slice.injEq, and_true] at hcs
    obtain ⟨rfl, rfl, rfl⟩ := hcs
    exact ⟨[], rfl, Nat.le_refl _, Nat.zero_le _, ⟨none, 0, rfl, fun j hj => absurd hj (Nat.not_lt_zero _)⟩, Nat.zero_le _⟩
  · simp only [List.cons.injEq, Value.slice.injEq, and_true] at hcs
    obtain ⟨rfl, rfl, rfl⟩ := hcs
    refine ⟨(List.range len).map B, by simp, hl, hm, ⟨some ad, cap, by simp, fun j hj => ?_⟩, ?_⟩
    · have hj' : j < len := by simpa using hj
      have h0 := hcell 0 (by omega)
      have e := addr_plain (show W.cell? ad = _ by simpa [Addr.add] using h0)
      have hc := hcell j (by omega)
      rw [e, add_plain] at hc
      refine ⟨ad.block, ad.off, by rw [← e], World.block_lt_of_cell? W ⟨ad.block, ad.off + j, none⟩ hc, ?_⟩
      rw [hc]; simp [hj']
    · rw [hx]
      show len ≤ Rows.uptoBulk (DataW.slice ((List.range len).map _) ((List.range (cap - len)).map _))
      have key : ∀ l : List (DataW H), l.length ≤ Rows.uptoBulkAll l := by
        intro l
        induction l with
        | nil => simp [Rows.uptoBulkAll]
        | cons y r ih => have : 1 ≤ Rows.uptoBulk y := by cases y with | lit l => cases l <;> simp [Rows.uptoBulk] | _ => simp [Rows.uptoBulk]
                         simp only [Rows.uptoBulkAll, List.length_cons]; omega
      have := key ((List.range len).map fun i => (DataW.lit (.bool (B i)) : DataW H))
      simp only [Rows.uptoBulk]
      simp only [List.length_map, List.length_range] at this
      omega

theorem ints_of {fuel : Nat} {a : Option Addr} {len cap : Nat} {x : DataW H × List MemPlace} (h : DataW.trod enc Try.prog W 0 (fun _ => true) held fuel 27 [.slice a len cap] = some x) :
    ∃ xs : List Int, xs.length = len ∧ len ≤ cap ∧ cap ≤ maxLen ∧ Ints W.heap.size W (.slice a len cap) xs ∧ ∀ n ∈ xs, (Lit.int .i64 n).wf = true := by
  rcases open_ints Try.underlying27 Try.underlying3 (by kernel_rfl) h with ⟨hcs, hx⟩ | ⟨ad, l, c, zs, hcs, _, hl, hm, hz, hx, hcell, hwz⟩
  · simp only [List.cons.injEq, Value.slice.injEq, and_true] at hcs
    obtain ⟨rfl, rfl, rfl⟩ := hcs
    exact ⟨[], rfl, Nat.le_refl _, Nat.zero_le _, ⟨none, 0, rfl, fun j hj => absurd hj (Nat.not_lt_zero _)⟩, by simp⟩
  · simp only [List.cons.injEq, Value.slice.injEq, and_true] at hcs
    obtain ⟨rfl, rfl, rfl⟩ := hcs
    have hz : zs.length = cap := by simpa using hz
    refine ⟨zs.take len, by simp; omega, hl, hm, ⟨some ad, cap, by rw [List.length_take]; congr 1; omega, fun j hj => ?_⟩, fun n hn => hwz n (List.mem_of_mem_take hn)⟩
    have hj' : j < len ∧ j < zs.length := by rw [List.length_take] at hj; omega
    have h0 := hcell 0 (by omega)
    have e := addr_plain (show W.cell? ad = _ by simpa [Addr.add] using h0)
    have hc := hcell j (by omega)
    rw [e, add_plain] at hc
    refine ⟨ad.block, ad.off, by rw [← e], World.block_lt_of_cell? W ⟨ad.block, ad.off + j, none⟩ hc, ?_⟩
    rw [hc]; simp [hj'.1]

theorem arr2_of {r : Reach} {b0 fuel : Nat} {v : Value} {x : DataW H × List MemPlace} (hv : Value.okWide Try.prog W r b0 28 v) (h : DataW.trod enc Try.prog W 0 (fun _ => true) held fuel 28 v.cells.toList = some x) :
    ∃ c d : Int, v = .agg #[.int .i64 c, .int .i64 d] := by
  simp only [Value.okWide, Try.underlying28] at hv
  obtain ⟨cs, rfl, hsz, _⟩ := hv
  have hC : Try.prog.cellsOf 28 = 2 := by kernel_rfl
  obtain ⟨c0, c1, rfl⟩ : ∃ c0 c1, cs = #[c0, c1] := by
    rw [hC] at hsz
    obtain ⟨l⟩ := cs
    match l, hsz with
    | [c0, c1], _ => exact ⟨c0, c1, rfl⟩
  obtain ⟨xs, m, _, _, _, hn, hall⟩ := DataW.trod_array Try.underlying28 h
  have hE : Try.prog.cellsOf 3 = 1 := by kernel_rfl
  rw [hE] at hall
  have h0 := hall 0 (by omega)
  have h1 := hall 1 (by omega)
  simp only [Value.cells, Nat.zero_mul, List.drop_zero, Nat.one_mul, List.drop_succ_cons, List.take_succ_cons, List.take_zero] at h0 h1
  rw [List.getElem?_eq_getElem (by omega)] at h0 h1
  obtain ⟨c, e0, _⟩ := DataW.trod_int Try.underlying3 h0
  obtain ⟨d, e1, _⟩ := DataW.trod_int Try.underlying3 h1
  simp only [List.cons.injEq, and_true] at e0 e1
  exact ⟨c, d, by rw [e0, e1]⟩
end
end Go.Proofs.Ytooonjoiidcmgaa
