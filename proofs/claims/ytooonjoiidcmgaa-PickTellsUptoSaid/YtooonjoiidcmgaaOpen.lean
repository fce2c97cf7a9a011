/- What the arguments of the statements read as: lists of bools, of numbers. -/
import Derived.Test.YtooonjoiidcmgaaLawA
import Derived.Test.YtooonjoiidcmgaaRows
import Derived.ProofKit
import Derived.OpenShut
import Derived.ShutString
import Derived.ChangeOld
import Derived.Below
import Derived.Deep.Grids
import Derived.JoinedCond
namespace Go.Proofs.Ytooonjoiidcmgaa
open Go.ChangeShapes Go.WideShapes Go.ChangeAt Go.RowKit Go.Deep

theorem own : ownKnob Try.prog.godebug = none := by kernel_rfl
theorem laidOut : laidOutB Try.prog = true := by kernel_rfl

theorem addr_plain {w : World} {a : Addr} {v : Value} (h : w.cell? a = some v) : a = ⟨a.block, a.off, none⟩ := by
  have := World.cell?_spot h
  cases a; simp at this; subst this; rfl
theorem add_plain (b off j : Nat) : (⟨b, off, none⟩ : Addr).add j = ⟨b, off + j, none⟩ := by
  unfold Addr.add; split
  · rename_i h; subst h; rfl
  · rfl

section
variable {H : Type} {enc : TypeId × Value → H} {W : World} {held : Bool}

theorem bools_of {fuel : Nat} {a : Option Addr} {len cap : Nat} {x : DataW H × List MemPlace} (h : DataW.trod enc Try.prog W 0 (fun _ => true) held fuel 22 [.slice a len cap] = some x) :
    ∃ bs : List Bool, bs.length = len ∧ len ≤ maxLen ∧ Bools W.heap.size W (.slice a len cap) bs ∧ len ≤ Rows.uptoBulk x.1 := by
  rcases open_bools Try.underlying22 Try.underlying4 (by kernel_rfl) h with ⟨hcs, hx⟩ | ⟨ad, l, c, B, hcs, _, hl, hm, hx, hcell⟩
  · simp only [List.cons.injEq, Value.slice.injEq, and_true] at hcs
    obtain ⟨rfl, rfl, rfl⟩ := hcs
    exact ⟨[], rfl, Nat.zero_le _, ⟨none, 0, rfl, fun j hj => absurd hj (Nat.not_lt_zero _)⟩, Nat.zero_le _⟩
  · simp only [List.cons.injEq, Value.slice.injEq, and_true] at hcs
    obtain ⟨rfl, rfl, rfl⟩ := hcs
    refine ⟨(List.range len).map B, by simp, by omega, ⟨some ad, cap, by simp, fun j hj => ?_⟩, ?_⟩
    · have hj' : j < len := by simpa using hj
      have h0 := hcell 0 (by omega)
      have e := addr_plain (show W.cell? ad = _ by simpa [Addr.add] using h0)
      have hc := hcell j (by omega)
      rw [e, add_plain] at hc
      refine ⟨ad.block, ad.off, by rw [← e], World.block_lt_of_cell? W ⟨ad.block, ad.off + j, none⟩ hc, ?_⟩
      rw [hc]; simp [hj']
    · rw [hx]
      show len ≤ Rows.uptoBulk (DataW.slice ((List.range len).map _) ((List.range (cap - len)).map _))
      have key : ∀ l : List (DataW H), l.length ≤ Rows.uptoBulkAll l := by
        intro l
        induction l with
        | nil => simp [Rows.uptoBulkAll]
        | cons y r ih => have : 1 ≤ Rows.uptoBulk y := by cases y with | lit l => cases l <;> simp [Rows.uptoBulk] | _ => simp [Rows.uptoBulk]
                         simp only [Rows.uptoBulkAll, List.length_cons]; omega
      have := key ((List.range len).map fun i => (DataW.lit (.bool (B i)) : DataW H))
      simp only [Rows.uptoBulk]
      simp only [List.length_map, List.length_range] at this
      omega
end
end Go.Proofs.Ytooonjoiidcmgaa
