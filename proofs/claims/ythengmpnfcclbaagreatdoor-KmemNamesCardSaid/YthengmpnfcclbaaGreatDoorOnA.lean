/- (fill.step).on: what a step that only goes on does: the package variable goesOn is asked. -/
import Derived.Test.YthengmpnfcclbaaGreatDoorEvX
import Derived.Test.YthengmpnfcclbaaGreatDoorCuA
namespace Go.Proofs.YthengmpnfcclbaaGreatDoor
open Go Go.RowKit Go.Shelf
set_option maxRecDepth 100000 in
set_option maxHeartbeats 400000 in
theorem to_c (r off : Nat) (n m : Int) (w : World) (hc : w.cell? ⟨r, off + 7 + 2, none⟩ = some (.int .i64 m)) (hf : w.frozen? ⟨r, off + 7 + 2, none⟩ = false) : Calls Tryz.prog 331 #[.pointer (some ⟨r, off, none⟩), .int .i64 n] w fun e w' => e = .returned (.tuple #[]) ∧ w' = w.setCell ⟨r, off + 7 + 2, none⟩ (.int .i64 n) := by
  go_enter Tryz.func331, Tryz.ntmps331
  go_wp2
  refine bodyPost_end (results_none rfl _ _ _) rfl ?_
  exact ⟨rfl, rfl⟩
set_option maxRecDepth 100000 in
set_option maxHeartbeats 400000 in
theorem on_c (r off : Nat) (m : Nat) (n : Int) (w : World) (hc : w.cell? ⟨r, off + 7 + 2, none⟩ = some (.int .i64 (m : Int))) (hf : w.frozen? ⟨r, off + 7 + 2, none⟩ = false) (hm : m < 50) (hg : w.cell? ⟨0, m, none⟩ = some (.int .i64 n)) :
    Calls Tryz.prog 328 #[.pointer (some ⟨r, off, none⟩)] w fun e w' => e = .returned (.tuple #[]) ∧ w' = w.setCell ⟨r, off + 7 + 2, none⟩ (.int .i64 n) := by
  have h0 : (0 : Int) ≤ m := by omega
  have h1 : (m : Int) < 50 := by omega
  go_enter Tryz.func328, Tryz.ntmps328
  go_wp2
  refine bodyPost_end (results_none rfl _ _ _) rfl ?_
  go_wp2
  refine bodyPost_end (results_none rfl _ _ _) rfl ?_
  exact ⟨rfl, rfl⟩
/-- `on`, told -/
noncomputable def onTold (args : List Value) (A : AW) : Option (Value × AW) :=
  match args with
  | [.pointer (some ⟨b, o, none⟩)] => match A.heap.get 0, A.heap.get b with
    | some (.glob 0 l), some (.cells cs _) => match cs.get (o + 7 + 2) with
      | some (.int .i64 (.ofNat m)) => match l[m]? with
        | some (.int .i64 n) => match A.store ⟨b, o + 7 + 2, none⟩ [.int .i64 n] with
          | some A' => bif Nat.blt m 50 then some (.tuple #[], A') else none
          | none => none
        | _ => none
      | _ => none
    | _, _ => none
  | _ => none
theorem storeCell_run (g o : Nat) (n : Int) (w w' : World) (hf : w.frozen? ⟨g, o, none⟩ = false) {u : Value} (hc : w.cell? ⟨g, o, none⟩ = some u) (h : (storeCells ⟨g, o, none⟩ [.int .i64 n]).run Tryz.prog w = .ok () w') : w' = w.setCell ⟨g, o, none⟩ (.int .i64 n) := by
  have hadd : (⟨g, o, none⟩ : Addr).add 0 = ⟨g, o, none⟩ := by unfold Addr.add; split <;> simp_all
  simp only [storeCells, hadd] at h
  rw [Sem.run_bind, run_store Tryz.prog w _ _ _ (by rfl), hc] at h
  simp [hf] at h
  exact h.symm
theorem onTold_ok {args : List Value} {A : AW} {v : Value} {A' : AW} (h : onTold args A = some (v, A')) : CallAt Tryz.prog 328 args A v A' := by
  unfold onTold at h
  split at h
  · rename_i b o
    split at h
    · rename_i l cs mate hg hb
      split at h
      · rename_i m hm
        split at h
        · rename_i n hn
          split at h
          · rename_i A1 hst
            obtain ⟨h50, h⟩ := bif_some h
            rw [nat_blt_eq, decide_eq_true_iff] at h50
            simp only [Option.some.injEq, Prod.mk.injEq] at h
            obtain ⟨rfl, rfl⟩ := h
            intro φ w args' hW hl F k hF
            obtain ⟨y, rest, e1, r1, r2⟩ := hl.cons_inv
            have e2 := r2.nil_inv
            subst e2
            have e3 : args' = #[y] := Array.ext' (by simpa using e1)
            subst e3
            cases r1 with
            | ptr hi =>
              rename_i i
              obtain ⟨i0, p0, g1, g2, g3⟩ := hW.live 0 _ hg
              rw [g1] at g3
              obtain ⟨i', p1, c, t1, k1, k2, k3⟩ := hW.live b _ hb
              have : i' = i := Option.some.inj (p1.symm.trans hi)
              subst this
              obtain ⟨v', q1, q2⟩ := k3 _ _ hm
              cases q2
              have hc : w.cell? ⟨i'.r, i'.δ + o + 7 + 2, none⟩ = some (.int .i64 (m : Int)) := by
                simp [World.cell?, k1]
                rw [show i'.δ + o + 7 + 2 = i'.δ + (o + 7 + 2) by omega]
                exact q1
              have hf : w.frozen? ⟨i'.r, i'.δ + o + 7 + 2, none⟩ = false := by simp [World.frozen?, k1]
              have hgc : w.cell? ⟨0, m, none⟩ = some (.int .i64 n) := by
                simp [World.cell?, g3]
                simpa using hn
              obtain ⟨w', s1, s2, s3⟩ := store_rel (P := Tryz.prog) hW hi hst (LRel.cons (.int _ _) (LRel.nil _))
              refine (Calls.inAny (on_c i'.r (i'.δ + o) m n w hc hf h50 hgc) hF k).mono ?_
              rintro e w2 ⟨rfl, rfl⟩
              have ew := storeCell_run _ _ _ w w' (by rw [show i'.δ + (o + 7 + 2) = i'.δ + o + 7 + 2 by omega]; exact hf) (by rw [show i'.δ + (o + 7 + 2) = i'.δ + o + 7 + 2 by omega]; exact hc) s1
              rw [show i'.δ + (o + 7 + 2) = i'.δ + o + 7 + 2 by omega] at ew
              rw [← ew]
              exact ⟨φ, _, rfl, VRel.undef φ, s2, s3⟩
          · cases h
        · cases h
      · cases h
    · cases h
  · cases h
/-- what the package variable holds -/
def goesOn : List Value := (List.range 50).map fun i => .int .i64 (match i with
  | 21 => 22 | 37 => 38 | 30 => 31 | 40 => 41 | 41 => 42 | 46 => 47 | 47 => 48 | 48 => 49 | 49 => 40 | 36 => 43 | _ => 0)
end Go.Proofs.YthengmpnfcclbaaGreatDoor
