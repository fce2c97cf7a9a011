/- short. Conditions: what lies in memory. -/
import Derived.Test.YtcpafphgkbfahaaGreatJuR
namespace Go.Proofs.YtcpafphgkbfahaaGreat
open Go.RowKit Go.Shelf
set_option linter.unusedVariables false
set_option linter.unusedSimpArgs false

def cutSn (S : Sn) : Sn := { S with handles := S.handles.take 150, dids := S.dids.take 150 }
theorem lies_take {P : Nat → Prop} {W : World} {a : Option Addr} {n c k m : Nat} {f g : Nat → Nat → Value} (h : Lies P W (.slice a n c) k n f) (hm : m ≤ n) (hg : ∀ j, j < m → g j = f j) : Lies P W (.slice a m c) k m g := by
  obtain ⟨a', cap, e, h1, h2, h3⟩ := h
  simp only [Value.slice.injEq] at e
  obtain ⟨rfl, _, rfl⟩ := e
  exact ⟨a, c, rfl, by omega, h2, fun j hj => by obtain ⟨b, off, e1, hp, hc⟩ := h3 j (by omega); exact ⟨b, off, e1, hp, fun i hi => by rw [hg j hj]; exact hc i hi⟩⟩
theorem take_gh {l : List Hd} {j m : Nat} (hj : j < m) : gh (l.take m) j = gh l j := by unfold gh; rw [List.getElem?_take, if_pos hj]
theorem take_gd {l : List Dd} {j m : Nat} (hj : j < m) : gd (l.take m) j = gd l j := by unfold gd; rw [List.getElem?_take, if_pos hj]
theorem hds_take {P : Nat → Prop} {W : World} {a : Option Addr} {c : Nat} {l : List Hd} (h : HdsP P W (.slice a l.length c) l) (m : Nat) : HdsP P W (.slice a (min m l.length) c) (l.take m) := by
  have e : (l.take m).length = min m l.length := List.length_take
  unfold HdsP
  rw [e]
  exact lies_take h (Nat.min_le_right _ _) (fun j hj => by rw [take_gh (by omega)])
theorem dds_take {P : Nat → Prop} {W : World} {a : Option Addr} {c : Nat} {l : List Dd} (h : DdsP P W (.slice a l.length c) l) (m : Nat) : DdsP P W (.slice a (min m l.length) c) (l.take m) := by
  have e : (l.take m).length = min m l.length := List.length_take
  obtain ⟨pv, h1, h2⟩ := h
  refine ⟨pv, ?_, fun j hj => ?_⟩
  · rw [e]; exact lies_take h1 (Nat.min_le_right _ _) (fun j hj => by rw [take_gd (by omega)])
  · rw [e] at hj; rw [take_gd (by omega)]; exact h2 j (by omega)
theorem fits_cut {S : Sn} (h : FitsAll S) : FitsAll (cutSn S) := by
  have e1 : (cutSn S).handles.length ≤ S.handles.length := by simp [cutSn]; exact Nat.min_le_right _ _
  have e2 : (cutSn S).dids.length = min 150 S.dids.length := List.length_take
  refine ⟨h.d, h.p, h.u, h.m, h.o, h.h, h.f, h.t, h.c, ?_, ?_, h.pp, h.cp, fun g hg => ?_⟩
  · have := h.hs; omega
  · have := h.ds; rw [e2]; have := Nat.min_le_right 150 S.dids.length; omega
  · rw [e2] at hg
    show (gd (S.dids.take 150) g).hs.length * 8 ≤ _
    rw [take_gd (by omega)]; exact h.dp g (by omega)
theorem min_int (n : Nat) : min ((n : Nat) : Int) 150 = ((min 150 n : Nat) : Int) := by omega
set_option maxRecDepth 100000 in
set_option maxHeartbeats 8000000 in
theorem short_c {P : Nat → Prop} (v1 v2 v3 v4 v5 v6 v7 v8 v9 v10 v11 : Value) (S : Sn) (w : World) (hS : SnP P w v1 v2 v3 v4 v5 v6 v7 v8 v9 v10 v11 S) (hF : FitsAll S) :
    Calls Tryz.prog 6 #[.agg #[.int .i64 S.now, v1, v2, v3, v4, v5, v6, v7, v8, v9, v10, v11]] w fun e w' => (∃ u1 u2 u3 u4 u5 u6 u7 u8 u9 u10 u11, e = .returned (.agg #[.int .i64 S.now, u1, u2, u3, u4, u5, u6, u7, u8, u9, u10, u11]) ∧ SnP (fun b => w.heap.size ≤ b) w' u1 u2 u3 u4 u5 u6 u7 u8 u9 u10 u11 (cutSn S)) ∧ Below w.heap.size w w' := by
  obtain ⟨a1, c1, e1, l1, k1⟩ := hS.d.form
  obtain ⟨a2, c2, e2, l2, k2⟩ := hS.p.form
  obtain ⟨a3, c3, e3, l3, k3⟩ := hS.u.form
  obtain ⟨a4, c4, e4, l4, k4⟩ := hS.m.form
  obtain ⟨a5, c5, e5, l5, k5⟩ := hS.o.form
  obtain ⟨a6, c6, e6, l6, k6⟩ := hS.h.form
  obtain ⟨a7, c7, e7, l7, k7⟩ := hS.f.form
  obtain ⟨a8, c8, e8, l8, k8⟩ := hS.t.form
  obtain ⟨a9, c9, e9, l9, k9⟩ := hS.c.form
  obtain ⟨a10, c10, e10, l10, k10⟩ := hS.hs.form
  obtain ⟨a11, c11, e11, l11, k11⟩ := hS.ds.form
  subst e1 e2 e3 e4 e5 e6 e7 e8 e9 e10 e11
  unfold maxLen at k1 k2 k3 k4 k5 k6 k7 k8 k9 k10 k11
  obtain ⟨w2, hw2⟩ : ∃ w2, w2 = (w.alloc (.cells #[.int .i64 S.now, .slice a1 S.depths.length c1, .slice a2 S.paths.length c2, .slice a3 S.used.length c3, .slice a4 S.most.length c4, .slice a5 S.owned.length c5, .slice a6 S.held.length c6, .slice a7 S.flies.length c7, .slice a8 S.tags.length c8, .slice a9 S.caches.length c9, .slice a10 S.handles.length c10, .slice a11 S.dids.length c11] 28)).alloc (.cells #[.int .i64 0, .slice none 0 0, .slice none 0 0, .slice none 0 0, .slice none 0 0, .slice none 0 0, .slice none 0 0, .slice none 0 0, .slice none 0 0, .slice none 0 0, .slice none 0 0, .slice none 0 0] 28) := ⟨_, rfl⟩
  have hb2 : Below w.heap.size w w2 := by rw [hw2]; exact (below_alloc w _).alloc (by simp) _
  have hs2 : w2.heap.size = w.heap.size + 1 + 1 := by rw [hw2]; simp
  have tR : w2.heap[w.heap.size + 1]? = some (.cells #[.int .i64 0, .slice none 0 0, .slice none 0 0, .slice none 0 0, .slice none 0 0, .slice none 0 0, .slice none 0 0, .slice none 0 0, .slice none 0 0, .slice none 0 0, .slice none 0 0, .slice none 0 0] 28 (0, 0)) := by rw [hw2]; exact heap_alloc_new2 w _ _
  have HC := Lib.hid (copySnap_c _ _ _ _ _ _ _ _ _ _ _ S w2 (hS.below hb2) hF)
  have HB2 := Lib.hid hb2
  have TR := Lib.hid tR
  clear hb2 tR hS hF
  go_enter Tryz.func6, Tryz.ntmps6
  go_wp2_with fail
  rw [← hw2]
  clear hw2
  refine HC.out.mono ?_
  rintro e w3 ⟨⟨u1, u2, u3, u4, u5, u6, u7, u8, u9, u10, u11, rfl, hU⟩, hb⟩
  have hs3 := hb.size
  have TR3 := Lib.hid ((hb.block (w.heap.size + 1) (by omega)).trans TR.out)
  have HB3 := Lib.hid (below_on HB2.out (Nat.le_refl _) hb)
  obtain ⟨ua1, uc1, rfl, ul1, uk1⟩ := hU.d.form
  obtain ⟨ua2, uc2, rfl, ul2, uk2⟩ := hU.p.form
  obtain ⟨ua3, uc3, rfl, ul3, uk3⟩ := hU.u.form
  obtain ⟨ua4, uc4, rfl, ul4, uk4⟩ := hU.m.form
  obtain ⟨ua5, uc5, rfl, ul5, uk5⟩ := hU.o.form
  obtain ⟨ua6, uc6, rfl, ul6, uk6⟩ := hU.h.form
  obtain ⟨ua7, uc7, rfl, ul7, uk7⟩ := hU.f.form
  obtain ⟨ua8, uc8, rfl, ul8, uk8⟩ := hU.t.form
  obtain ⟨ua9, uc9, rfl, ul9, uk9⟩ := hU.c.form
  obtain ⟨ua10, uc10, rfl, ul10, uk10⟩ := hU.hs.form
  obtain ⟨ua11, uc11, rfl, ul11, uk11⟩ := hU.ds.form
  unfold maxLen at uk10 uk11
  have HU := Lib.hid hU
  clear hb hU HC
  rcases Nat.lt_or_ge 150 S.handles.length with h10 | h10 <;> rcases Nat.lt_or_ge 150 S.dids.length with h11 | h11
  · obtain ⟨⟨r0, q0⟩, ⟨r1, q1⟩, ⟨r2, q2⟩, ⟨r3, q3⟩, ⟨r4, q4⟩, ⟨r5, q5⟩, ⟨r6, q6⟩, ⟨r7, q7⟩, ⟨r8, q8⟩, ⟨r9, q9⟩, ⟨r10, q10⟩, r11, q11⟩ := cells12a TR3.out
    have hn10 : ((S.handles.length : Nat) : Int) ≤ 9223372036854775807 := by omega
    have hn11 : ((S.dids.length : Nat) : Int) ≤ 9223372036854775807 := by omega
    have E10 : Hid (min 150 S.handles.length = 150) := by unfold Hid; omega
    have E11 : Hid (min 150 S.dids.length = 150) := by unfold Hid; omega
    have T : Hid (∀ o, (w3.alloc o).heap[w.heap.size + 1]? = some (.cells #[.int .i64 0, .slice none 0 0, .slice none 0 0, .slice none 0 0, .slice none 0 0, .slice none 0 0, .slice none 0 0, .slice none 0 0, .slice none 0 0, .slice none 0 0, .slice none 0 0, .slice none 0 0] 28 (0, 0))) := fun o => heap_alloc_past w3 o TR3.out
    go_wp2
    refine bodyPost_ret (v := .agg #[.int .i64 S.now, .slice ua1 S.depths.length uc1, .slice ua2 S.paths.length uc2, .slice ua3 S.used.length uc3, .slice ua4 S.most.length uc4, .slice ua5 S.owned.length uc5, .slice ua6 S.held.length uc6, .slice ua7 S.flies.length uc7, .slice ua8 S.tags.length uc8, .slice ua9 S.caches.length uc9, .slice ua10 150 uc10, .slice ua11 150 uc11]) (by simp [results, Tryz.results6, go_sem, tw0 (T.out _), tw1 (T.out _), tw2 (T.out _), tw3 (T.out _), tw4 (T.out _), tw5 (T.out _), tw6 (T.out _), tw7 (T.out _), tw8 (T.out _), tw9 (T.out _), tw10 (T.out _), tw11 (T.out _)]) rfl ⟨⟨_, _, _, _, _, _, _, _, _, _, _, rfl, ?_⟩, tw_below (HB3.out.alloc HB3.out.size _) (by omega) _ _ _ _ _ _ _ _ _ _ _ _⟩
    have hd10 := hds_take HU.out.hs 150
    have hd11 := dds_take HU.out.ds 150
    rw [E10.out] at hd10
    rw [E11.out] at hd11
    have hfin : ∀ o, ∀ b, w2.heap.size ≤ b → b < w3.heap.size → w.heap.size ≤ b ∧ _ := fun o b hb hb3 => ⟨by omega, (tw_other (W := w3.alloc o) (X := w.heap.size + 1) (show b ≠ w.heap.size + 1 by omega) (.int .i64 S.now) (.slice ua1 S.depths.length uc1) (.slice ua2 S.paths.length uc2) (.slice ua3 S.used.length uc3) (.slice ua4 S.most.length uc4) (.slice ua5 S.owned.length uc5) (.slice ua6 S.held.length uc6) (.slice ua7 S.flies.length uc7) (.slice ua8 S.tags.length uc8) (.slice ua9 S.caches.length uc9) (.slice ua10 150 uc10) (.slice ua11 150 uc11)).trans ((below_alloc w3 o).block b hb3)⟩
    exact ⟨HU.out.d.keep (hfin _), HU.out.p.keep (hfin _), HU.out.u.keep (hfin _), HU.out.m.keep (hfin _), HU.out.o.keep (hfin _), HU.out.h.keep (hfin _), HU.out.f.keep (hfin _), HU.out.t.keep (hfin _), HU.out.c.keep (hfin _), hd10.keep (hfin _), hd11.keep (hfin _)⟩
  · obtain ⟨⟨r0, q0⟩, ⟨r1, q1⟩, ⟨r2, q2⟩, ⟨r3, q3⟩, ⟨r4, q4⟩, ⟨r5, q5⟩, ⟨r6, q6⟩, ⟨r7, q7⟩, ⟨r8, q8⟩, ⟨r9, q9⟩, ⟨r10, q10⟩, r11, q11⟩ := cells12a TR3.out
    have hn10 : ((S.handles.length : Nat) : Int) ≤ 9223372036854775807 := by omega
    have hn11 : ((S.dids.length : Nat) : Int) ≤ 9223372036854775807 := by omega
    have E10 : Hid (min 150 S.handles.length = 150) := by unfold Hid; omega
    have E11 : Hid (min 150 S.dids.length = S.dids.length) := by unfold Hid; omega
    have T : Hid (∀ o, (w3.alloc o).heap[w.heap.size + 1]? = some (.cells #[.int .i64 0, .slice none 0 0, .slice none 0 0, .slice none 0 0, .slice none 0 0, .slice none 0 0, .slice none 0 0, .slice none 0 0, .slice none 0 0, .slice none 0 0, .slice none 0 0, .slice none 0 0] 28 (0, 0))) := fun o => heap_alloc_past w3 o TR3.out
    go_wp2
    refine bodyPost_ret (v := .agg #[.int .i64 S.now, .slice ua1 S.depths.length uc1, .slice ua2 S.paths.length uc2, .slice ua3 S.used.length uc3, .slice ua4 S.most.length uc4, .slice ua5 S.owned.length uc5, .slice ua6 S.held.length uc6, .slice ua7 S.flies.length uc7, .slice ua8 S.tags.length uc8, .slice ua9 S.caches.length uc9, .slice ua10 150 uc10, .slice ua11 S.dids.length uc11]) (by simp [results, Tryz.results6, go_sem, tw0 (T.out _), tw1 (T.out _), tw2 (T.out _), tw3 (T.out _), tw4 (T.out _), tw5 (T.out _), tw6 (T.out _), tw7 (T.out _), tw8 (T.out _), tw9 (T.out _), tw10 (T.out _), tw11 (T.out _)]) rfl ⟨⟨_, _, _, _, _, _, _, _, _, _, _, rfl, ?_⟩, tw_below (HB3.out.alloc HB3.out.size _) (by omega) _ _ _ _ _ _ _ _ _ _ _ _⟩
    have hd10 := hds_take HU.out.hs 150
    have hd11 := dds_take HU.out.ds 150
    rw [E10.out] at hd10
    rw [E11.out] at hd11
    have hfin : ∀ o, ∀ b, w2.heap.size ≤ b → b < w3.heap.size → w.heap.size ≤ b ∧ _ := fun o b hb hb3 => ⟨by omega, (tw_other (W := w3.alloc o) (X := w.heap.size + 1) (show b ≠ w.heap.size + 1 by omega) (.int .i64 S.now) (.slice ua1 S.depths.length uc1) (.slice ua2 S.paths.length uc2) (.slice ua3 S.used.length uc3) (.slice ua4 S.most.length uc4) (.slice ua5 S.owned.length uc5) (.slice ua6 S.held.length uc6) (.slice ua7 S.flies.length uc7) (.slice ua8 S.tags.length uc8) (.slice ua9 S.caches.length uc9) (.slice ua10 150 uc10) (.slice ua11 S.dids.length uc11)).trans ((below_alloc w3 o).block b hb3)⟩
    exact ⟨HU.out.d.keep (hfin _), HU.out.p.keep (hfin _), HU.out.u.keep (hfin _), HU.out.m.keep (hfin _), HU.out.o.keep (hfin _), HU.out.h.keep (hfin _), HU.out.f.keep (hfin _), HU.out.t.keep (hfin _), HU.out.c.keep (hfin _), hd10.keep (hfin _), hd11.keep (hfin _)⟩
  · obtain ⟨⟨r0, q0⟩, ⟨r1, q1⟩, ⟨r2, q2⟩, ⟨r3, q3⟩, ⟨r4, q4⟩, ⟨r5, q5⟩, ⟨r6, q6⟩, ⟨r7, q7⟩, ⟨r8, q8⟩, ⟨r9, q9⟩, ⟨r10, q10⟩, r11, q11⟩ := cells12a TR3.out
    have hn10 : ((S.handles.length : Nat) : Int) ≤ 9223372036854775807 := by omega
    have hn11 : ((S.dids.length : Nat) : Int) ≤ 9223372036854775807 := by omega
    have E10 : Hid (min 150 S.handles.length = S.handles.length) := by unfold Hid; omega
    have E11 : Hid (min 150 S.dids.length = 150) := by unfold Hid; omega
    have T : Hid (∀ o, (w3.alloc o).heap[w.heap.size + 1]? = some (.cells #[.int .i64 0, .slice none 0 0, .slice none 0 0, .slice none 0 0, .slice none 0 0, .slice none 0 0, .slice none 0 0, .slice none 0 0, .slice none 0 0, .slice none 0 0, .slice none 0 0, .slice none 0 0] 28 (0, 0))) := fun o => heap_alloc_past w3 o TR3.out
    go_wp2
    refine bodyPost_ret (v := .agg #[.int .i64 S.now, .slice ua1 S.depths.length uc1, .slice ua2 S.paths.length uc2, .slice ua3 S.used.length uc3, .slice ua4 S.most.length uc4, .slice ua5 S.owned.length uc5, .slice ua6 S.held.length uc6, .slice ua7 S.flies.length uc7, .slice ua8 S.tags.length uc8, .slice ua9 S.caches.length uc9, .slice ua10 S.handles.length uc10, .slice ua11 150 uc11]) (by simp [results, Tryz.results6, go_sem, tw0 (T.out _), tw1 (T.out _), tw2 (T.out _), tw3 (T.out _), tw4 (T.out _), tw5 (T.out _), tw6 (T.out _), tw7 (T.out _), tw8 (T.out _), tw9 (T.out _), tw10 (T.out _), tw11 (T.out _)]) rfl ⟨⟨_, _, _, _, _, _, _, _, _, _, _, rfl, ?_⟩, tw_below (HB3.out.alloc HB3.out.size _) (by omega) _ _ _ _ _ _ _ _ _ _ _ _⟩
    have hd10 := hds_take HU.out.hs 150
    have hd11 := dds_take HU.out.ds 150
    rw [E10.out] at hd10
    rw [E11.out] at hd11
    have hfin : ∀ o, ∀ b, w2.heap.size ≤ b → b < w3.heap.size → w.heap.size ≤ b ∧ _ := fun o b hb hb3 => ⟨by omega, (tw_other (W := w3.alloc o) (X := w.heap.size + 1) (show b ≠ w.heap.size + 1 by omega) (.int .i64 S.now) (.slice ua1 S.depths.length uc1) (.slice ua2 S.paths.length uc2) (.slice ua3 S.used.length uc3) (.slice ua4 S.most.length uc4) (.slice ua5 S.owned.length uc5) (.slice ua6 S.held.length uc6) (.slice ua7 S.flies.length uc7) (.slice ua8 S.tags.length uc8) (.slice ua9 S.caches.length uc9) (.slice ua10 S.handles.length uc10) (.slice ua11 150 uc11)).trans ((below_alloc w3 o).block b hb3)⟩
    exact ⟨HU.out.d.keep (hfin _), HU.out.p.keep (hfin _), HU.out.u.keep (hfin _), HU.out.m.keep (hfin _), HU.out.o.keep (hfin _), HU.out.h.keep (hfin _), HU.out.f.keep (hfin _), HU.out.t.keep (hfin _), HU.out.c.keep (hfin _), hd10.keep (hfin _), hd11.keep (hfin _)⟩
  · obtain ⟨⟨r0, q0⟩, ⟨r1, q1⟩, ⟨r2, q2⟩, ⟨r3, q3⟩, ⟨r4, q4⟩, ⟨r5, q5⟩, ⟨r6, q6⟩, ⟨r7, q7⟩, ⟨r8, q8⟩, ⟨r9, q9⟩, ⟨r10, q10⟩, r11, q11⟩ := cells12a TR3.out
    have hn10 : ((S.handles.length : Nat) : Int) ≤ 9223372036854775807 := by omega
    have hn11 : ((S.dids.length : Nat) : Int) ≤ 9223372036854775807 := by omega
    have E10 : Hid (min 150 S.handles.length = S.handles.length) := by unfold Hid; omega
    have E11 : Hid (min 150 S.dids.length = S.dids.length) := by unfold Hid; omega
    have T : Hid (∀ o, (w3.alloc o).heap[w.heap.size + 1]? = some (.cells #[.int .i64 0, .slice none 0 0, .slice none 0 0, .slice none 0 0, .slice none 0 0, .slice none 0 0, .slice none 0 0, .slice none 0 0, .slice none 0 0, .slice none 0 0, .slice none 0 0, .slice none 0 0] 28 (0, 0))) := fun o => heap_alloc_past w3 o TR3.out
    go_wp2
    refine bodyPost_ret (v := .agg #[.int .i64 S.now, .slice ua1 S.depths.length uc1, .slice ua2 S.paths.length uc2, .slice ua3 S.used.length uc3, .slice ua4 S.most.length uc4, .slice ua5 S.owned.length uc5, .slice ua6 S.held.length uc6, .slice ua7 S.flies.length uc7, .slice ua8 S.tags.length uc8, .slice ua9 S.caches.length uc9, .slice ua10 S.handles.length uc10, .slice ua11 S.dids.length uc11]) (by simp [results, Tryz.results6, go_sem, tw0 (T.out _), tw1 (T.out _), tw2 (T.out _), tw3 (T.out _), tw4 (T.out _), tw5 (T.out _), tw6 (T.out _), tw7 (T.out _), tw8 (T.out _), tw9 (T.out _), tw10 (T.out _), tw11 (T.out _)]) rfl ⟨⟨_, _, _, _, _, _, _, _, _, _, _, rfl, ?_⟩, tw_below (HB3.out.alloc HB3.out.size _) (by omega) _ _ _ _ _ _ _ _ _ _ _ _⟩
    have hd10 := hds_take HU.out.hs 150
    have hd11 := dds_take HU.out.ds 150
    rw [E10.out] at hd10
    rw [E11.out] at hd11
    have hfin : ∀ o, ∀ b, w2.heap.size ≤ b → b < w3.heap.size → w.heap.size ≤ b ∧ _ := fun o b hb hb3 => ⟨by omega, (tw_other (W := w3.alloc o) (X := w.heap.size + 1) (show b ≠ w.heap.size + 1 by omega) (.int .i64 S.now) (.slice ua1 S.depths.length uc1) (.slice ua2 S.paths.length uc2) (.slice ua3 S.used.length uc3) (.slice ua4 S.most.length uc4) (.slice ua5 S.owned.length uc5) (.slice ua6 S.held.length uc6) (.slice ua7 S.flies.length uc7) (.slice ua8 S.tags.length uc8) (.slice ua9 S.caches.length uc9) (.slice ua10 S.handles.length uc10) (.slice ua11 S.dids.length uc11)).trans ((below_alloc w3 o).block b hb3)⟩
    exact ⟨HU.out.d.keep (hfin _), HU.out.p.keep (hfin _), HU.out.u.keep (hfin _), HU.out.m.keep (hfin _), HU.out.o.keep (hfin _), HU.out.h.keep (hfin _), HU.out.f.keep (hfin _), HU.out.t.keep (hfin _), HU.out.c.keep (hfin _), hd10.keep (hfin _), hd11.keep (hfin _)⟩
end Go.Proofs.YtcpafphgkbfahaaGreat
