/- The law JudgeHistories. Conditions: what lies in memory. -/
import Derived.Test.YtcpafphgkbfahaaGreatJuT
import Derived.Test.YtcpafphgkbfahaaGreatEvY
namespace Go.Proofs.YtcpafphgkbfahaaGreat
open Go.RowKit Go.Shelf
set_option linter.unusedVariables false
set_option linter.unusedSimpArgs false

def sp0 : Sp := ⟨0, 0, 0, 0, 0, 0⟩
def gs (l : List Sp) (i : Nat) : Sp := l[i]?.getD sp0
theorem spsC_get : ∀ (l : List Sp) (k i : Nat), k < l.length → i < 6 → (spsC l)[k * 6 + i]? = (spC (gs l k))[i]?
  | [], k, _, h, _ => absurd h (Nat.not_lt_zero _)
  | x :: r, 0, i, _, hi => by
    show (spC x ++ spsC r)[0 * 6 + i]? = _
    rw [Nat.zero_mul, Nat.zero_add, List.getElem?_append_left (by exact hi)]; rfl
  | x :: r, k + 1, i, h, hi => by
    show (spC x ++ spsC r)[(k + 1) * 6 + i]? = _
    rw [List.getElem?_append_right (by show 6 ≤ _; omega), show (k + 1) * 6 + i - (spC x).length = k * 6 + i by show (k + 1) * 6 + i - 6 = _; omega, spsC_get r k i (by simpa using h) hi]; rfl
theorem sps_at {w : World} {base g c : Nat} {l : List Sp} (h : w.ownsRow base 37 6 (.slice (some ⟨g, 0, none⟩) l.length c) l.length (spsC l)) {k : Nat} (hk : k < l.length) :
    w.cell? ⟨g, k * 6, none⟩ = some (.int .i64 (gs l k).kind) ∧ w.cell? ⟨g, k * 6 + 1, none⟩ = some (.int .i64 (gs l k).cache) ∧ w.cell? ⟨g, k * 6 + 2, none⟩ = some (.int .i64 (gs l k).slab) ∧
    w.cell? ⟨g, k * 6 + 3, none⟩ = some (.int .i64 (gs l k).obj) ∧ w.cell? ⟨g, k * 6 + 4, none⟩ = some (.int .i64 (gs l k).frm) ∧ w.cell? ⟨g, k * 6 + 5, none⟩ = some (.int .i64 (gs l k).to) := by
  refine ⟨?_, ?_, ?_, ?_, ?_, ?_⟩
  · exact (h.cellAt (k * 6 + 0) (by omega)).trans (spsC_get l k 0 hk (by decide))
  · exact (h.cellAt (k * 6 + 1) (by omega)).trans (spsC_get l k 1 hk (by decide))
  · exact (h.cellAt (k * 6 + 2) (by omega)).trans (spsC_get l k 2 hk (by decide))
  · exact (h.cellAt (k * 6 + 3) (by omega)).trans (spsC_get l k 3 hk (by decide))
  · exact (h.cellAt (k * 6 + 4) (by omega)).trans (spsC_get l k 4 hk (by decide))
  · exact (h.cellAt (k * 6 + 5) (by omega)).trans (spsC_get l k 5 hk (by decide))
theorem owns_len {w : World} {base n : Nat} {e : TypeId} {size : Nat} {v : Value} {xs : List Value} (h : w.ownsRow base e size v n xs) : ∃ a c, v = .slice a n c := by
  rcases h.2 with ⟨rfl, rfl⟩ | ⟨g, cap, cur, rfl, _⟩
  · exact ⟨_, _, rfl⟩
  · exact ⟨_, _, rfl⟩
theorem cut_shaped {S : Sn} {la lb : List Sp} (a1 : ShapedJ (cutSn S) → la = histN (cutSn S) (cutSn S).handles.length) (a2 : ¬ ShapedJ (cutSn S) → la = []) (b1 : ShapedR (cutSn S) → lb = histN (cutSn S) (cutSn S).handles.length) (b2 : ¬ ShapedR (cutSn S) → lb = []) : la = lb ∧ la.length ≤ 300 := by
  by_cases h : ShapedJ (cutSn S)
  · rw [a1 h, b1 ((shaped_same _).1 h)]
    refine ⟨rfl, ?_⟩
    have := histN_length (cutSn S) (cutSn S).handles.length
    have h2 : (cutSn S).handles.length ≤ 150 := by simp [cutSn]; exact Nat.min_le_left _ _
    omega
  · rw [a2 h, b2 (fun e => h ((shaped_same _).2 e))]; exact ⟨rfl, Nat.zero_le _⟩
set_option maxRecDepth 100000 in
set_option maxHeartbeats 16000000 in
theorem histories_walk (v1 v2 v3 v4 v5 v6 v7 v8 v9 v10 v11 : Value) (S : Sn) (w : World) (hS : SnP (fun _ => True) w v1 v2 v3 v4 v5 v6 v7 v8 v9 v10 v11 S) (hF : FitsAll S) :
    Calls Tryz.prog 3 #[.agg #[.int .i64 S.now, v1, v2, v3, v4, v5, v6, v7, v8, v9, v10, v11]] w fun e w' => e = .returned (.bool true) ∧ Below w.heap.size w w' := by
  obtain ⟨a1, c1, e1, l1, k1⟩ := hS.d.form
  obtain ⟨a2, c2, e2, l2, k2⟩ := hS.p.form
  obtain ⟨a3, c3, e3, l3, k3⟩ := hS.u.form
  obtain ⟨a4, c4, e4, l4, k4⟩ := hS.m.form
  obtain ⟨a5, c5, e5, l5, k5⟩ := hS.o.form
  obtain ⟨a6, c6, e6, l6, k6⟩ := hS.h.form
  obtain ⟨a7, c7, e7, l7, k7⟩ := hS.f.form
  obtain ⟨a8, c8, e8, l8, k8⟩ := hS.t.form
  obtain ⟨a9, c9, e9, l9, k9⟩ := hS.c.form
  obtain ⟨a10, c10, e10, l10, k10⟩ := hS.hs.form
  obtain ⟨a11, c11, e11, l11, k11⟩ := hS.ds.form
  subst e1 e2 e3 e4 e5 e6 e7 e8 e9 e10 e11
  unfold maxLen at k1 k2 k3 k4 k5 k6 k7 k8 k9 k10 k11
  obtain ⟨w1, hw1⟩ : ∃ w1, w1 = w.alloc (.cells #[.int .i64 S.now, .slice a1 S.depths.length c1, .slice a2 S.paths.length c2, .slice a3 S.used.length c3, .slice a4 S.most.length c4, .slice a5 S.owned.length c5, .slice a6 S.held.length c6, .slice a7 S.flies.length c7, .slice a8 S.tags.length c8, .slice a9 S.caches.length c9, .slice a10 S.handles.length c10, .slice a11 S.dids.length c11] 28) := ⟨_, rfl⟩
  have hb1 : Below w.heap.size w w1 := by rw [hw1]; exact below_alloc _ _
  have hs1 : w1.heap.size = w.heap.size + 1 := by rw [hw1]; simp
  have t1 : w1.heap[w.heap.size]? = some (.cells #[.int .i64 S.now, .slice a1 S.depths.length c1, .slice a2 S.paths.length c2, .slice a3 S.used.length c3, .slice a4 S.most.length c4, .slice a5 S.owned.length c5, .slice a6 S.held.length c6, .slice a7 S.flies.length c7, .slice a8 S.tags.length c8, .slice a9 S.caches.length c9, .slice a10 S.handles.length c10, .slice a11 S.dids.length c11] 28 (0, 0)) := by rw [hw1]; exact World.alloc_heap_new _ _
  have HC := Lib.hid (short_c _ _ _ _ _ _ _ _ _ _ _ S w1 (hS.below hb1) hF)
  have HB1 := Lib.hid hb1
  have T1 := Lib.hid t1
  have HF := Lib.hid (fits_cut hF)
  have H150 : Hid ((cutSn S).handles.length ≤ 150) := by unfold Hid; simp [cutSn]; exact Nat.min_le_left _ _
  clear hb1 hS hF
  obtain ⟨⟨y0, _⟩, ⟨y1, _⟩, ⟨y2, _⟩, ⟨y3, _⟩, ⟨y4, _⟩, ⟨y5, _⟩, ⟨y6, _⟩, ⟨y7, _⟩, ⟨y8, _⟩, ⟨y9, _⟩, ⟨y10, _⟩, y11, _⟩ := cells12 t1
  clear t1
  go_enter Tryz.func3, Tryz.ntmps3
  go_wp2_with fail
  rw [← hw1]
  clear hw1 y0 y1 y2 y3 y4 y5 y6 y7 y8 y9 y10 y11
  refine HC.out.mono ?_
  rintro e w2 ⟨⟨u1, u2, u3, u4, u5, u6, u7, u8, u9, u10, u11, rfl, hU⟩, hb⟩
  have hs2 := hb.size
  have t2 := (hb.block (w.heap.size) (by omega)).trans T1.out
  have HB2 := Lib.hid (below_on HB1.out (Nat.le_refl _) hb)
  obtain ⟨ua1, uc1, rfl, ul1, uk1⟩ := hU.d.form
  obtain ⟨ua2, uc2, rfl, ul2, uk2⟩ := hU.p.form
  obtain ⟨ua3, uc3, rfl, ul3, uk3⟩ := hU.u.form
  obtain ⟨ua4, uc4, rfl, ul4, uk4⟩ := hU.m.form
  obtain ⟨ua5, uc5, rfl, ul5, uk5⟩ := hU.o.form
  obtain ⟨ua6, uc6, rfl, ul6, uk6⟩ := hU.h.form
  obtain ⟨ua7, uc7, rfl, ul7, uk7⟩ := hU.f.form
  obtain ⟨ua8, uc8, rfl, ul8, uk8⟩ := hU.t.form
  obtain ⟨ua9, uc9, rfl, ul9, uk9⟩ := hU.c.form
  obtain ⟨ua10, uc10, rfl, ul10, uk10⟩ := hU.hs.form
  obtain ⟨ua11, uc11, rfl, ul11, uk11⟩ := hU.ds.form
  have HU := Lib.hid hU
  have T2 := Lib.hid t2
  obtain ⟨⟨r0, q0⟩, ⟨r1, q1⟩, ⟨r2, q2⟩, ⟨r3, q3⟩, ⟨r4, q4⟩, ⟨r5, q5⟩, ⟨r6, q6⟩, ⟨r7, q7⟩, ⟨r8, q8⟩, ⟨r9, q9⟩, ⟨r10, q10⟩, r11, q11⟩ := cells12 t2
  clear hb hU HC t2 T1
  go_wp2_with fail
  obtain ⟨w3, hw3⟩ : ∃ w3, w3 = ((((((((((((w2.setCell ⟨w.heap.size, 0, none⟩ (.int .i64 S.now)).setCell ⟨w.heap.size, 1, none⟩ (.slice ua1 (cutSn S).depths.length uc1)).setCell ⟨w.heap.size, 2, none⟩ (.slice ua2 (cutSn S).paths.length uc2)).setCell ⟨w.heap.size, 3, none⟩ (.slice ua3 (cutSn S).used.length uc3)).setCell ⟨w.heap.size, 4, none⟩ (.slice ua4 (cutSn S).most.length uc4)).setCell ⟨w.heap.size, 5, none⟩ (.slice ua5 (cutSn S).owned.length uc5)).setCell ⟨w.heap.size, 6, none⟩ (.slice ua6 (cutSn S).held.length uc6)).setCell ⟨w.heap.size, 7, none⟩ (.slice ua7 (cutSn S).flies.length uc7)).setCell ⟨w.heap.size, 8, none⟩ (.slice ua8 (cutSn S).tags.length uc8)).setCell ⟨w.heap.size, 9, none⟩ (.slice ua9 (cutSn S).caches.length uc9)).setCell ⟨w.heap.size, 10, none⟩ (.slice ua10 (cutSn S).handles.length uc10)).setCell ⟨w.heap.size, 11, none⟩ (.slice ua11 (cutSn S).dids.length uc11)) := ⟨_, rfl⟩
  rw [← hw3]
  have hx3 : w3.heap[w.heap.size]? = some (.cells #[.int .i64 S.now, .slice ua1 (cutSn S).depths.length uc1, .slice ua2 (cutSn S).paths.length uc2, .slice ua3 (cutSn S).used.length uc3, .slice ua4 (cutSn S).most.length uc4, .slice ua5 (cutSn S).owned.length uc5, .slice ua6 (cutSn S).held.length uc6, .slice ua7 (cutSn S).flies.length uc7, .slice ua8 (cutSn S).tags.length uc8, .slice ua9 (cutSn S).caches.length uc9, .slice ua10 (cutSn S).handles.length uc10, .slice ua11 (cutSn S).dids.length uc11] 28 (0, 0)) := by rw [hw3]; exact tw_heap T2.out _ _ _ _ _ _ _ _ _ _ _ _
  have hb3 : Below w.heap.size w w3 := by rw [hw3]; exact tw_below HB2.out (Nat.le_refl _) _ _ _ _ _ _ _ _ _ _ _ _
  have hs3 : w3.heap.size = w2.heap.size := by rw [hw3]; simp only [World.size_setCell]
  have hfin : ∀ b, w1.heap.size ≤ b → b < w2.heap.size → True ∧ w3.heap[b]? = w2.heap[b]? := fun b hb _ => ⟨trivial, by rw [hw3]; exact tw_other (show b ≠ w.heap.size by omega) _ _ _ _ _ _ _ _ _ _ _ _⟩
  have HU3 := Lib.hid (HU.out.keep hfin)
  have HX3 := Lib.hid hx3
  have HB3 := Lib.hid hb3
  clear hw3 hfin hb3 HU T2 r0 q0 r1 q1 r2 q2 r3 q3 r4 q4 r5 q5 r6 q6 r7 q7 r8 q8 r9 q9 r10 q10 r11 q11
  obtain ⟨⟨y0, _⟩, ⟨y1, _⟩, ⟨y2, _⟩, ⟨y3, _⟩, ⟨y4, _⟩, ⟨y5, _⟩, ⟨y6, _⟩, ⟨y7, _⟩, ⟨y8, _⟩, ⟨y9, _⟩, ⟨y10, _⟩, y11, _⟩ := cells12 hx3
  clear hx3
  have HC8 : Hid (Calls Tryz.prog 8 #[.agg #[.int .i64 S.now, .slice ua1 (cutSn S).depths.length uc1, .slice ua2 (cutSn S).paths.length uc2, .slice ua3 (cutSn S).used.length uc3, .slice ua4 (cutSn S).most.length uc4, .slice ua5 (cutSn S).owned.length uc5, .slice ua6 (cutSn S).held.length uc6, .slice ua7 (cutSn S).flies.length uc7, .slice ua8 (cutSn S).tags.length uc8, .slice ua9 (cutSn S).caches.length uc9, .slice ua10 (cutSn S).handles.length uc10, .slice ua11 (cutSn S).dids.length uc11]] w3.drew _) := copySnap_c _ _ _ _ _ _ _ _ _ _ _ (cutSn S) w3.drew (HU3.out.below (below_drewN w3 1)) HF.out
  have KB : Hid (∀ w', Below w3.heap.size w3 w' → (w'.cell? ⟨w.heap.size, 0, none⟩ = some (.int .i64 S.now) ∧ w'.cell? ⟨w.heap.size, 1, none⟩ = some (.slice ua1 (cutSn S).depths.length uc1) ∧ w'.cell? ⟨w.heap.size, 2, none⟩ = some (.slice ua2 (cutSn S).paths.length uc2) ∧ w'.cell? ⟨w.heap.size, 3, none⟩ = some (.slice ua3 (cutSn S).used.length uc3) ∧ w'.cell? ⟨w.heap.size, 4, none⟩ = some (.slice ua4 (cutSn S).most.length uc4) ∧ w'.cell? ⟨w.heap.size, 5, none⟩ = some (.slice ua5 (cutSn S).owned.length uc5) ∧ w'.cell? ⟨w.heap.size, 6, none⟩ = some (.slice ua6 (cutSn S).held.length uc6) ∧ w'.cell? ⟨w.heap.size, 7, none⟩ = some (.slice ua7 (cutSn S).flies.length uc7) ∧ w'.cell? ⟨w.heap.size, 8, none⟩ = some (.slice ua8 (cutSn S).tags.length uc8) ∧ w'.cell? ⟨w.heap.size, 9, none⟩ = some (.slice ua9 (cutSn S).caches.length uc9) ∧ w'.cell? ⟨w.heap.size, 10, none⟩ = some (.slice ua10 (cutSn S).handles.length uc10) ∧ w'.cell? ⟨w.heap.size, 11, none⟩ = some (.slice ua11 (cutSn S).dids.length uc11))) := fun w' hb => by
    have h := (hb.block (w.heap.size) (by omega)).trans HX3.out
    obtain ⟨⟨z0, _⟩, ⟨z1, _⟩, ⟨z2, _⟩, ⟨z3, _⟩, ⟨z4, _⟩, ⟨z5, _⟩, ⟨z6, _⟩, ⟨z7, _⟩, ⟨z8, _⟩, ⟨z9, _⟩, ⟨z10, _⟩, z11, _⟩ := cells12 h
    exact ⟨z0, z1, z2, z3, z4, z5, z6, z7, z8, z9, z10, z11⟩
  go_region_held3 (fun w' => w'.cell? ⟨w.heap.size, 0, none⟩ = some (.int .i64 S.now) ∧ w'.cell? ⟨w.heap.size, 1, none⟩ = some (.slice ua1 (cutSn S).depths.length uc1) ∧ w'.cell? ⟨w.heap.size, 2, none⟩ = some (.slice ua2 (cutSn S).paths.length uc2) ∧ w'.cell? ⟨w.heap.size, 3, none⟩ = some (.slice ua3 (cutSn S).used.length uc3) ∧ w'.cell? ⟨w.heap.size, 4, none⟩ = some (.slice ua4 (cutSn S).most.length uc4) ∧ w'.cell? ⟨w.heap.size, 5, none⟩ = some (.slice ua5 (cutSn S).owned.length uc5) ∧ w'.cell? ⟨w.heap.size, 6, none⟩ = some (.slice ua6 (cutSn S).held.length uc6) ∧ w'.cell? ⟨w.heap.size, 7, none⟩ = some (.slice ua7 (cutSn S).flies.length uc7) ∧ w'.cell? ⟨w.heap.size, 8, none⟩ = some (.slice ua8 (cutSn S).tags.length uc8) ∧ w'.cell? ⟨w.heap.size, 9, none⟩ = some (.slice ua9 (cutSn S).caches.length uc9) ∧ w'.cell? ⟨w.heap.size, 10, none⟩ = some (.slice ua10 (cutSn S).handles.length uc10) ∧ w'.cell? ⟨w.heap.size, 11, none⟩ = some (.slice ua11 (cutSn S).dids.length uc11))
    (first | exact k4 | exact k5 | exact k6 | go_keep)
    (first
      | (go_at_call 8; refine HC8.out.mono ?_; rintro e w4 ⟨⟨x1, x2, x3, x4, x5, x6, x7, x8, x9, x10, x11, rfl, hX⟩, hb4'⟩; have hb4 : Below w3.heap.size w3 w4 := below_then (below_drewN w3 1) (below_low hb4' (Nat.le_refl _)); have k4 := KB.out w4 hb4)
      | (go_at_call 7; refine (history_c _ _ _ _ _ _ _ _ _ _ _ (cutSn S) w4 hX HF.out.pp H150.out).mono ?_; rintro e w5 ⟨⟨va, la, rfl, la1, la2, rowa⟩, hb5'⟩; have hb5 := below_on hb4 (Nat.le_refl _) hb5'; have k5 := KB.out w5 hb5)
      | (go_at_call 9; refine (rhistory_c _ _ _ _ _ _ _ _ _ _ _ (cutSn S) w5 (HU3.out.below hb5) H150.out).mono ?_; rintro e w6 ⟨⟨vb, lb, rfl, lb1, lb2, rowb⟩, hb6'⟩; have hb6 := below_on hb5 (Nat.le_refl _) hb6'; have k6 := KB.out w6 hb6))
  obtain ⟨rfl, hl300⟩ := cut_shaped la1 la2 lb1 lb2
  have hrowa := owns_below rowa hb6'
  have HB6 := Lib.hid (below_then HB3.out (below_low hb6 HB3.out.size))
  obtain ⟨n, hn⟩ : ∃ n, n = la.length := ⟨_, rfl⟩
  have HN := Lib.hid hn
  obtain ⟨aa, ca, ea⟩ := owns_len hrowa
  obtain ⟨ab, cb, eb⟩ := owns_len rowb
  subst ea eb
  rw [← hn] at hl300 hrowa rowb ⊢
  have HRA := Lib.hid hrowa
  have HRB := Lib.hid rowb
  clear hn la1 la2 lb1 lb2 rowa rowb hrowa hb4 hb4' hb5 hb5' hb6 hb6' k4 k5 k6 hX KB HC8 HU3 HX3 HB3 y0 y1 y2 y3 y4 y5 y6 y7 y8 y9 y10 y11
  go_wp2_with fail
  go_loopw [5] (fun i wr => ∃ k : Nat, k ≤ n ∧ i = .int .i64 k ∧ Below w6.heap.size w6 wr) (fun i _ => n - (intOf i).toNat)
  case atStart => exact ⟨0, Nat.zero_le _, rfl, Below.refl _ _⟩
  case round =>
    obtain ⟨k, hk, rfl, hB⟩ := hrel
    have HBr := Lib.hid hB
    clear hB
    by_cases hlt : k < n
    · have HLT := Lib.hid hlt
      obtain ⟨ga, ca', ea, _⟩ := HRA.out.form (by omega)
      obtain ⟨gb, cb', eb, _⟩ := HRB.out.form (by omega)
      simp only [Value.slice.injEq, true_and] at ea eb
      obtain ⟨rfl, rfl⟩ := ea
      obtain ⟨rfl, rfl⟩ := eb
      have ra := owns_below HRA.out HBr.out
      have rb := owns_below HRB.out HBr.out
      rw [HN.out] at ra rb
      obtain ⟨p0, p1, p2, p3, p4, p5⟩ := sps_at ra (by rw [← HN.out]; exact hlt)
      obtain ⟨q0, q1, q2, q3, q4, q5⟩ := sps_at rb (by rw [← HN.out]; exact hlt)
      have hi1 : (k : Int) < (n : Int) := by omega
      have hi0 : (0 : Int) ≤ (k : Int) := by omega
      generalize gs la k = sp at *
      clear ra rb
      go_wp2_with fail
      go_quiet (fail)
      go_wp2
      go_roundw
      case rel => exact ⟨k + 1, HLT.out, by go_num, below_then HBr.out (below_low (below_drewN _ _) HBr.out.size)⟩
      case measure => simp [intOf]; have := HLT.out; omega
    · obtain rfl : n = k := by omega
      go_wp2_with fail
      refine (works_c _).mono ?_
      rintro e wz ⟨rfl, hb⟩
      have HBZ := Lib.hid (below_then (below_then HB6.out (below_low HBr.out HB6.out.size)) (below_low hb (Nat.le_trans HB6.out.size HBr.out.size)))
      clear hb
      go_wp2
      go_ret
      exact ⟨rfl, HBZ.out⟩
end Go.Proofs.YtcpafphgkbfahaaGreat
