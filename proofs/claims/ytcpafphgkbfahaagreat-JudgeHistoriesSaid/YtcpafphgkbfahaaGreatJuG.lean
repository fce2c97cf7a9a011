/- Compact. Conditions: what lies in memory. -/
import Derived.Test.YtcpafphgkbfahaaGreatJuF
import Derived.Lib.LazyBuf
namespace Go.Proofs.YtcpafphgkbfahaaGreat
open Go.RowKit Go.Shelf
set_option linter.unusedVariables false
set_option linter.unusedSimpArgs false

def Apart (xs : List Int) : Prop := ∀ i, i + 1 < xs.length → gi xs i ≠ gi xs (i + 1)
theorem gi_at {xs : List Int} {k n : Nat} (h : k < n) (hn : n = xs.length) : (xs.map (Value.int .i64))[k]? = some (.int .i64 (gi xs k)) := by
  rw [List.getElem?_map, List.getElem?_eq_getElem (by omega)]; simp [gi, List.getElem?_eq_getElem (show k < xs.length by omega)]
theorem run_clear22 (w : World) (g o n c : Nat) (ty : TypeId) (hn : 0 < n) (hs : ∀ j, j < n → (w.cell? ⟨g, o + j, none⟩).isSome = true) (hf : ∀ j, j < n → w.frozen? ⟨g, o + j, none⟩ = false) :
    (Builtin.clear_ #[22] ty #[.slice (some ⟨g, o, none⟩) n c]).run Tryz.prog w = .ok (.tuple #[]) (w.setCells g o (Builtin.zeroCells #[.int .i64 0] n).toList) := by
  have hl : (Builtin.zeroCells #[.int .i64 0] n).toList.length = n := by simp [Builtin.zeroCells]
  have hst := run_storeCells_cells (P := Tryz.prog) g o (Builtin.zeroCells #[.int .i64 0] n).toList 0 w (fun j hj => hs j (by omega)) (fun j hj => hf j (by omega)) (zero_one n)
  obtain ⟨i0, hi0, z1, z2, z3⟩ := info_parts info3
  obtain ⟨m, rfl⟩ : ∃ m, n = m + 1 := ⟨n - 1, by omega⟩
  simp [Builtin.clear_, run_underlying Tryz.underlying22, zeroValue, typeInfo, hi0, z1, hst, Result.andThen, Value.cells]
set_option maxRecDepth 100000 in
set_option maxHeartbeats 2000000 in
theorem compact_c (n₀ g cap : Nat) (xs : List Int) (w : World) (hO : w.ownsRow n₀ 3 1 (.slice (some ⟨g, 0, none⟩) xs.length cap) xs.length (xs.map (Value.int .i64))) (hc : xs.length ≤ cap) (hcm : cap ≤ 9223372036854775807) :
    Calls Tryz.prog 93 #[.slice (some ⟨g, 0, none⟩) xs.length cap] w fun e w' => (∃ m c, e = .returned (.slice (some ⟨g, 0, none⟩) m c) ∧ m ≤ xs.length ∧ (m = xs.length ↔ Apart xs)) ∧ Below n₀ w w' := by
  obtain ⟨n, hn⟩ : ∃ n, n = xs.length := ⟨_, rfl⟩
  have HN := Lib.hid hn
  have hlt0 := hO.lt g rfl
  rw [← hn] at hO hc ⊢
  have HO := Lib.hid hO
  clear hn hO
  go_enter Tryz.func93, Tryz.ntmps93
  by_cases h2 : n < 2
  · have HA : Hid (Apart xs) := fun i hi => by have := HN.out; omega
    go_wp2
    go_ret
    exact ⟨⟨n, cap, rfl, Nat.le_refl _, by simp only [true_iff]; exact HA.out⟩, Below.refl _ _⟩
  · go_wp2
    go_loopw [3] (fun i wr => ∃ k : Nat, 1 ≤ k ∧ k ≤ n ∧ i = .int .i64 k ∧ (∀ j, j + 1 < k → gi xs j ≠ gi xs (j + 1)) ∧ ∃ m, wr = w.drewN m) (fun i _ => n - (intOf i).toNat)
    case atStart => exact ⟨1, by omega, by omega, rfl, fun j hj => by omega, 0, rfl⟩
    case round =>
      obtain ⟨k, hk1, hkn, rfl, hne, m0, rfl⟩ := hrel
      have HNE := Lib.hid hne
      clear hne
      by_cases hlt : k < n
      · obtain ⟨p, rfl⟩ : ∃ p, k = p + 1 := ⟨k - 1, by omega⟩
        have x1 : w.cell? ⟨g, p + 1, none⟩ = some (.int .i64 (gi xs (p + 1))) := (HO.out.cellAt (p + 1) (by omega)).trans (gi_at hlt HN.out)
        have x0 : w.cell? ⟨g, p, none⟩ = some (.int .i64 (gi xs p)) := (HO.out.cellAt p (by omega)).trans (gi_at (by omega) HN.out)
        have hi1 : (p : Int) + 1 < (n : Int) := by omega
        have hi0 : (0 : Int) ≤ (p : Int) + 1 := by omega
        have HLT := Lib.hid hlt
        clear hlt hkn hk1
        by_cases hx : gi xs (p + 1) = gi xs p
        · have HX := Lib.hid hx
          clear hx
          rw [HX.out] at x1
          go_wp2_with fail
          go_quiet (fail)
          go_wp2
          have hB0 : Below n₀ w (w.drewN (m0 + 1)) := below_low (below_drewN _ _) (by omega)
          go_loopw [3, 5] (fun i1 i2 wr => ∃ q r : Nat, 1 ≤ r ∧ r ≤ n - (p + 1) ∧ p + 1 ≤ q ∧ q ≤ p + r ∧ i1 = .int .i64 q ∧ i2 = .int .i64 r ∧ (∃ ys : List Int, n = ys.length ∧ wr.ownsRow n₀ 3 1 (.slice (some ⟨g, 0, none⟩) n cap) n (ys.map (Value.int .i64))) ∧ Below n₀ w wr) (fun _ i2 _ => n - (intOf i2).toNat)
          case atStart => exact ⟨p + 1, 1, by omega, by have := HLT.out; omega, by omega, by omega, rfl, rfl, ⟨xs, HN.out, HO.out⟩, by first | exact hB0 | exact below_low (below_drewN _ _) (by omega)⟩
          case round =>
            clear hB0 x0 x1
            obtain ⟨q, r, hr1, hrn, hq1, hqr, rfl, rfl, ⟨ys, hys, hown⟩, hB⟩ := hrel
            have hqn : q < n := by have := HLT.out; omega
            have HOW := Lib.hid hown
            have HB := Lib.hid hB
            have HYS := Lib.hid hys
            have HP := Lib.hid (show p + 1 < n from HLT.out)
            have HR := Lib.hid (show 1 ≤ r ∧ r ≤ n - (p + 1) ∧ p + 1 ≤ q ∧ q ≤ p + r from ⟨hr1, hrn, hq1, hqr⟩)
            have hfq := hown.frozenAt q
            have hcq : wr.cell? ⟨g, q, none⟩ = some (.int .i64 (gi ys q)) := (hown.cellAt q (by omega)).trans (gi_at hqn hys)
            clear hown hB hys hi0 hi1
            by_cases hlt2 : r < n - (p + 1)
            · obtain ⟨s, rfl⟩ : ∃ s, r = s + 1 := ⟨r - 1, by omega⟩
              have y1 : wr.cell? ⟨g, p + 1 + (s + 1), none⟩ = some (.int .i64 (gi ys (p + 1 + (s + 1)))) := (HOW.out.cellAt _ (by omega)).trans (gi_at (by omega) HYS.out)
              have y0 : wr.cell? ⟨g, p + 1 + s, none⟩ = some (.int .i64 (gi ys (p + 1 + s))) := (HOW.out.cellAt _ (by omega)).trans (gi_at (by omega) HYS.out)
              have hj1 : (s : Int) + 1 < ((n - (p + 1) : Nat) : Int) := by omega
              have hj0 : (0 : Int) ≤ (s : Int) + 1 := by omega
              have hq0 : (q : Int) < (n : Int) := by omega
              clear hr1 hrn hq1 hqr hlt2 hqn
              generalize gi ys (p + 1 + (s + 1)) = z1 at *
              generalize gi ys (p + 1 + s) = z0 at *
              by_cases hz : z1 = z0
              · subst hz
                go_wp2_with fail
                go_quiet (fail)
                go_wp2
                go_roundw
                case rel => exact ⟨q, s + 1 + 1, by omega, by have := HR.out; omega, by have := HR.out; omega, by have := HR.out; omega, rfl, by go_num, ⟨ys, HYS.out, HOW.out⟩, below_then HB.out (below_low (below_drewN _ _) (by have := HB.out.size; omega))⟩
                case measure => simp [intOf]; omega
              · have hzb : (z1 == z0) = false := by simpa using hz
                clear hz
                go_wp2_with fail
                go_quiet (fail)
                go_wp2
                go_roundw
                case rel => exact ⟨q + 1, s + 1 + 1, by omega, by have := HR.out; omega, by have := HR.out; omega, by have := HR.out; omega, by go_num, by go_num, ⟨ys.set q z1, by rw [List.length_set]; exact HYS.out, by have := (World.ownsRow.stored (w := wr.drewN nq) HOW.out q (.int .i64 z1)).1; rwa [← List.map_set] at this⟩, (below_then HB.out (below_low (below_drewN _ _) (by have := HB.out.size; omega))).setCell hlt0.1 _⟩
                case measure => simp [intOf]; omega
            · have hrr : Hid (r = n - (p + 1)) := by unfold Hid; omega
              have hcl := fun ty => run_clear22 wr g q (n - q) (cap - q) ty (by omega) (fun j hj => by rw [HOW.out.cellAt (q + j) (by omega), List.getElem?_map, List.getElem?_eq_getElem (by rw [← HYS.out]; omega)]; rfl) (fun j _ => HOW.out.frozenAt _)
              have hfin : Hid ((∃ m c, Ending.returned (.slice (some ⟨g, 0, none⟩) q cap) = .returned (.slice (some ⟨g, 0, none⟩) m c) ∧ m ≤ n ∧ (m = n ↔ Apart xs))) :=
                ⟨q, cap, rfl, by omega, ⟨fun e => by omega, fun hA => absurd HX.out.symm (hA p (by have h1 := HP.out; have h2 := HN.out; omega))⟩⟩
              have hBZ := Lib.hid (Go.below_setCells hlt0.1 (Builtin.zeroCells #[.int .i64 0] (n - q)).toList q wr HB.out)
              have hqc : q ≤ cap := by omega
              have hqc2 : q < cap := by omega
              clear hr1 hrn hq1 hqr
              go_wp2
              go_ret
              exact ⟨hfin.out, hBZ.out⟩
        · have HX := Lib.hid hx
          have hb : (gi xs (p + 1) == gi xs p) = false := by simpa using hx
          clear hx
          go_wp2_with fail
          go_quiet (fail)
          go_wp2
          go_roundw
          case rel => exact ⟨p + 1 + 1, by omega, HLT.out, by go_num, fun j hj => (Nat.lt_or_ge j p).elim (fun h => HNE.out j (by omega)) (fun h => by obtain rfl : j = p := (by omega); exact fun e => HX.out e.symm), _, rfl⟩
          case measure => simp [intOf]; have := HLT.out; omega
      · obtain rfl : k = n := by omega
        have HA : Hid (Apart xs) := fun i hi => HNE.out i (by have := HN.out; omega)
        go_wp2
        go_ret
        exact ⟨⟨_, cap, rfl, Nat.le_refl _, by simp only [true_iff]; exact HA.out⟩, below_low (below_drewN _ _) (by omega)⟩
end Go.Proofs.YtcpafphgkbfahaaGreat
