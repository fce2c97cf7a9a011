/- A list of handles appended to a new slice. Conditions: what lies in memory. -/
import Derived.Test.YtcpafphgkbfahaaGreatJuN0
namespace Go.Proofs.YtcpafphgkbfahaaGreat
open Go.RowKit Go.Shelf
set_option linter.unusedVariables false
set_option linter.unusedSimpArgs false

theorem info70 : (Tryz.prog.info? 70).map (fun i => (i.zero, i.size, i.bytes)) = some (some (.agg #[.int .i64 0, .int .i64 0, .int .i64 0, .int .i64 0, .bool false]), 5, 40) := by kernel_rfl
theorem info47 : (Tryz.prog.info? 47).map (fun i => (i.zero, i.size, i.bytes)) = some (some (.agg #[.int .i64 0, .int .i64 0, .int .i64 0, .int .i64 0, .bool false, .int .i64 0, .slice none 0 0, .int .i64 0, .int .i64 0, .int .i64 0, .int .i64 0, .int .i64 0, .int .i64 0, .int .i64 0]), 14, 128) := by kernel_rfl
theorem info73 : (Tryz.prog.info? 73).map (fun i => (i.zero, i.size, i.bytes)) = some (some (.agg #[.int .i64 0, .int .i64 0, .int .i64 0, .int .i64 0, .int .i64 0, .slice none 0 0]), 6, 64) := by kernel_rfl
theorem run_append_zero70 (w : World) (ty : TypeId) (g : Nat) (a : Option Addr) (c : Nat) :
    (Builtin.append_ #[25, 25] ty #[.slice (some ⟨g, 0, none⟩) 0 0, .slice a 0 c]).run Tryz.prog w = .ok (.slice (some ⟨g, 0, none⟩) 0 0) w := by
  obtain ⟨i0, hi0, z1, z2, z3⟩ := info_parts info70
  cases a <;> simp [Builtin.append_, run_underlying Tryz.underlying25, sizeOf, typeInfo, hi0, Builtin.lenOf, Builtin.firstCells, storeCells, loadCells, loadCellsFrom, Result.andThen]
def hdC (h : Hd) : List Value := [.int .i64 h.cache, .int .i64 h.slab, .int .i64 h.obj, .int .i64 h.group, .bool h.out]
def hdsC (l : List Hd) : List Value := (List.range l.length).flatMap fun j => hdC (gh l j)
theorem hdsC_length (l : List Hd) : (hdsC l).length = l.length * 5 := flat_length (sz := 5) (fun j => hdC (gh l j)) (fun _ => rfl) l.length
theorem hdsC_one (l : List Hd) : ∀ u ∈ hdsC l, u.oneCell' = true := by
  intro u hu
  obtain ⟨j, _, h⟩ := List.mem_flatMap.1 hu
  simp [hdC] at h
  rcases h with rfl | rfl | rfl | rfl | rfl <;> rfl
theorem wpList_append_hds {P : Nat → Prop} (w : World) {ops : Array Oper} {rest : List Oper} {o : Oper} {a : Act} {Q : Exit → Act → World → Prop} (hgd : o.guard = none) (s x : Operand)
    (ho : o.op = .call { callee := .builtin .append, args := #[s, x], argTypes := #[25, 25] }) (base H : Nat) (hs : a.eval s = .slice (some ⟨H, 0, none⟩) 0 0) (hown : w.ownsRow base 70 5 (.slice (some ⟨H, 0, none⟩) 0 0) 0 [])
    (sv : Value) (l : List Hd) (hI : HdsP P w sv l) (hx : a.eval x = sv) (hr : l.length * 40 ≤ 140737488351232) (hbase : base ≤ w.heap.size)
    (h : ∀ v w', w'.ownsRow base 70 5 v l.length (hdsC l) → w.grownBy w' (some H) → wpList Tryz.prog ops Q rest (a.put o.dst v) w') : wpList Tryz.prog ops Q (o :: rest) a w := by
  obtain ⟨i0, hi0, z1, z2, z3⟩ := info_parts info70
  obtain ⟨ao, c, rfl, hlc, hcm⟩ := hI.form
  by_cases h0 : 0 < l.length
  · obtain ⟨b, off, rfl, _⟩ := hI.at h0
    refine wpList_append_lies w hgd s x 25 ho base 70 i0 _ 5 40 Tryz.underlying25 hi0 z1 z2 z3 rfl (by decide) _ 0 [] hs hown ⟨b, off, none⟩ l.length c (hdsC l) hx (by rw [hdsC_length]) hI.src (hdsC_one l) h0 (by unfold maxLen; omega) (by omega) hbase _ rfl ?_
    intro g cap w' hown' hgrow _ _
    have e : 0 + l.length = l.length := Nat.zero_add _
    rw [e] at hown' ⊢
    exact h _ w' hown' hgrow
  · obtain rfl : l = [] := List.eq_nil_of_length_eq_zero (by omega)
    refine wpList_plain hgd fun _ hK => ?_
    unfold Oper.wp execOp
    simp only [ho, resolve, invoke, builtin, Sem.run_bind, Sem.run_pure, Result.andThen_ok, List.map_toArray, List.map_cons, List.map_nil, hs, hx, List.length_nil, run_append_zero70]
    exact hK _ _ (h _ w hown ⟨rfl, rfl, rfl, Nat.le_refl _, fun _ _ _ => rfl⟩)
theorem hds_of_row {P : Nat → Prop} {w : World} {base : Nat} {v : Value} {l : List Hd} (h : w.ownsRow base 70 5 v l.length (hdsC l)) (hP : ∀ g, base ≤ g → P g) : HdsP P w v l := by
  rcases h.2 with ⟨rfl, h0⟩ | ⟨g, cap, cur, rfl, hb, hg, hc, hm, hz, ht⟩
  · exact ⟨none, 0, by rw [h0], by omega, Nat.zero_le _, fun j hj => by omega⟩
  · refine ⟨_, cap, rfl, hc, hm, fun j hj => ⟨g, 0, rfl, hP g hb, fun i hi => ?_⟩⟩
    rw [Nat.zero_add, h.cellAt _ (by omega)]
    unfold hdsC
    rw [flat_get (sz := 5) (fun j => hdC (gh l j)) (fun _ => rfl) l.length j i hj hi]
    obtain rfl | rfl | rfl | rfl | rfl : i = 0 ∨ i = 1 ∨ i = 2 ∨ i = 3 ∨ i = 4 := by omega
    all_goals rfl
end Go.Proofs.YtcpafphgkbfahaaGreat
