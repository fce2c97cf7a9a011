/- The reference's tree: New, Offline, Add; EqInts of two like lists. -/
import Derived.Test.YtooonjoiidcmgaaTreeM
namespace Go.Proofs.Ytooonjoiidcmgaa
open Go.RowKit Go.Shelf

theorem owns_type {w : World} {base g n cap : Nat} {e : TypeId} {size : Nat} {xs : List Value} (h : w.ownsRow base e size (.slice (some ⟨g, 0, none⟩) n cap) n xs) : ∃ cur, w.heap[g]? = some (.cells cur e (0, 0)) := by
  rcases h.2 with ⟨h', _⟩ | ⟨g', c, cur, h', _, h3, _⟩
  · simp at h'
  · simp only [Value.slice.injEq, Option.some.injEq, Addr.mk.injEq, and_true, true_and] at h'
    obtain ⟨rfl, rfl⟩ := h'
    exact ⟨cur, h3⟩
theorem owns_turned {w w' : World} {base g n cap : Nat} {e : TypeId} {size : Nat} {xs : List Value} {S : Nat → Prop} (h : w.ownsRow base e size (.slice (some ⟨g, 0, none⟩) n cap) n xs) (ht : Turned S w w') (hs : ¬ S g) : w'.ownsRow base e size (.slice (some ⟨g, 0, none⟩) n cap) n xs := by
  refine ⟨h.1, ?_⟩
  rcases h.2 with ⟨h', _⟩ | ⟨g', c, cur, h', h2, h3, h4⟩
  · simp at h'
  · refine .inr ⟨g', c, cur, h', h2, ?_, h4⟩
    simp only [Value.slice.injEq, Option.some.injEq, Addr.mk.injEq, and_true, true_and] at h'
    obtain ⟨rfl, rfl⟩ := h'
    exact (ht.block g (Array.getElem?_eq_some_iff.1 h3).1 hs).trans h3
theorem MAt.ne {W : World} {B U O : Nat} {st : List Nd} (h : MAt W B U O st) : B ≠ U ∧ B ≠ O ∧ U ≠ O := by
  obtain ⟨cu, co, hb, hu, ho⟩ := h
  obtain ⟨xu, h1⟩ := owns_type hu
  obtain ⟨xo, h2⟩ := owns_type ho
  refine ⟨?_, ?_, ?_⟩
  · rintro rfl; rw [hb] at h1; injection h1 with h1; injection h1 with _ h1; cases h1
  · rintro rfl; rw [hb] at h2; injection h2 with h2; injection h2 with _ h2; cases h2
  · rintro rfl; rw [h1] at h2; injection h2 with h2; injection h2 with _ h2; cases h2
theorem MAt.kept {W W' : World} {B U O : Nat} {st : List Nd} {S : Nat → Prop} (h : MAt W B U O st) (hg : Turned S W W') (hB : ¬ S B) (hU : ¬ S U) (hO : ¬ S O) : MAt W' B U O st := by
  obtain ⟨cu, co, hb, hu, ho⟩ := h
  exact ⟨cu, co, (hg.block B (Array.getElem?_eq_some_iff.1 hb).1 hB).trans hb, owns_turned hu hg hU, owns_turned ho hg hO⟩

set_option maxHeartbeats 400000 in
theorem rnew_c (w : World) : Calls Try.prog 25 #[] w fun e w' => e = .returned (.pointer (some ⟨w.heap.size + 2, 0, none⟩)) ∧ MAt w' (w.heap.size + 2) w.heap.size (w.heap.size + 1) [⟨0, 1, false⟩] ∧ Below w.heap.size w w' := by
  go_enter Try.func25, Try.ntmps25
  go_wp2
  go_ret
  refine ⟨rfl, ⟨2, 2, ?_, ?_, ?_⟩, (((Below.refl _ w).alloc (Nat.le_refl _) _).alloc (by simp) _).alloc (by simp; omega) _⟩
  · have := World.alloc_heap_new ((w.alloc (.cells #[.int .i64 0, .int .i64 0] 3)).alloc (.cells #[.bool false, .bool true] 4)) (.cells #[.slice (some ⟨w.heap.size, 0, none⟩) 2 2, .slice (some ⟨w.heap.size + 1, 0, none⟩) 2 2] 69)
    simp only [World.size_alloc] at this
    exact this
  · have := World.ownsRow_lit (base := 0) (e := 3) (size := 1) w #[.int .i64 0, .int .i64 0] 2 (Nat.zero_le _) (by unfold maxLen; omega) rfl
    exact (this.alloc _).alloc _
  · have := World.ownsRow_lit (base := 0) (e := 4) (size := 1) (w.alloc (.cells #[.int .i64 0, .int .i64 0] 3)) #[.bool false, .bool true] 2 (Nat.zero_le _) (by unfold maxLen; omega) rfl
    rw [World.size_alloc] at this
    exact this.alloc _

theorem upsM_off (st : List Nd) {g : Nat} (h1 : 1 ≤ g) (h2 : g ≤ st.length) : upsM (st.set (g - 1) { nd st g with off := true }) = upsM st := by
  unfold upsM
  rw [List.length_set]
  refine List.map_congr_left (fun k hk => ?_)
  rw [nd_set h1 h2]
  split
  · rename_i e; subst e; rfl
  · rfl
theorem onsM_off (st : List Nd) {g : Nat} (h1 : 1 ≤ g) (h2 : g ≤ st.length) : onsM (st.set (g - 1) { nd st g with off := true }) = (onsM st).set g (.bool false) := by
  unfold onsM
  rw [List.length_set]
  apply List.ext_getElem?
  intro i
  rw [List.getElem?_set]
  by_cases hi : i < st.length + 1
  · simp only [List.getElem?_map, List.getElem?_range hi, Option.map_some, nd_set h1 h2, List.length_map, List.length_range]
    by_cases e : g = i
    · subst e; simp [hi]
    · rw [if_neg e, if_neg (fun h => e h.symm)]
  · simp [show ¬ i < st.length + 1 by omega, show g ≠ i by omega]

set_option maxHeartbeats 800000 in
theorem roff_c (B U O : Nat) (st : List Nd) (g : Int) (w : World) (h : MAt w B U O st) (hi : Inv st) :
    Calls Try.prog 29 #[.pointer (some ⟨B, 0, none⟩), .int .i64 g] w fun e w' => e = .returned (.int .i64 ((offF st g.toNat).2 : Int)) ∧ MAt w' B U O (offF st g.toNat).1 ∧ Turned (fun k => k = O) w w' := by
  have hr := h.rd
  have hn2 := hi.few
  obtain ⟨c, hc⟩ := hr.bu
  obtain ⟨c', hc'⟩ := hr.bo
  have HT := Lib.hid h
  have HT0 : Hid (Turned (fun k => k = O) w w) := Turned.refl _ _
  by_cases hg : 1 ≤ g ∧ g ≤ st.length
  · obtain ⟨k, rfl⟩ := Int.eq_ofNat_of_zero_le (show 0 ≤ g by omega)
    rw [Int.toNat_natCast]
    have hk1 : 1 ≤ k := by omega
    have hk2 : k ≤ st.length := by omega
    have c2 := hr.on k hk2
    by_cases h1 : k = 1
    · have E := Lib.hid (show offF st k = (st, 292) by unfold offF; rw [if_neg (by omega), if_pos (.inl h1)])
      subst h1
      clear c2 hr h hi
      go_enter Try.func29, Try.ntmps29
      go_wp2_with (go_at_call 45; refine (has_in B U st.length c 1 _ hc hk1 hk2 hn2).mono ?_; rintro e w' ⟨rfl, rfl⟩)
      go_ret
      exact ⟨by rw [E.out]; rfl, by rw [E.out]; exact HT.out, HT0.out⟩
    · have hk1' : ((k : Int) == 1) = false := by simp; omega
      cases ho : (nd st k).off with
      | true =>
        have E := Lib.hid (show offF st k = (st, 292) by unfold offF; rw [if_neg (by omega), if_pos (.inr ho)])
        rw [ho] at c2
        clear hr h hi ho
        go_enter Try.func29, Try.ntmps29
        go_wp2_with (go_at_call 45; refine (has_in B U st.length c k _ hc hk1 hk2 hn2).mono ?_; rintro e w' ⟨rfl, rfl⟩)
        go_ret
        exact ⟨by rw [E.out]; rfl, by rw [E.out]; exact HT.out, HT0.out⟩
      | false =>
        have E := Lib.hid (show offF st k = (st.set (k - 1) { nd st k with off := true }, 0) by unfold offF; rw [if_neg (by omega), if_neg (by rw [ho]; simp; exact h1)])
        rw [ho] at c2
        obtain ⟨cu, co, hb, hu, hoo⟩ := HT.out
        have hf := hoo.frozenAt k
        have HS := Lib.hid (hoo.stored k (.bool false))
        have HN := Lib.hid h.ne
        have HB := Lib.hid hb
        have HU := Lib.hid hu
        clear hr h hi ho hb hu hoo
        go_enter Try.func29, Try.ntmps29
        go_wp2_with (go_at_call 45; refine (has_in B U st.length c k _ hc hk1 hk2 hn2).mono ?_; rintro e w' ⟨rfl, rfl⟩)
        go_ret
        have ht : Turned (fun k => k = O) w (w.setCell ⟨O, k, none⟩ (.bool false)) := Turned.of_grown HS.out.2 (fun k e => by cases e; rfl)
        refine ⟨by rw [E.out]; rfl, ?_, ht⟩
        rw [E.out]
        refine ⟨cu, co, ?_, ?_, ?_⟩
        · rw [List.length_set]; exact (ht.block B (Array.getElem?_eq_some_iff.1 HB.out).1 HN.out.2.1).trans HB.out
        · rw [List.length_set, upsM_off st hk1 hk2]; exact owns_turned HU.out ht (HN.out.2.2)
        · rw [List.length_set, onsM_off st hk1 hk2]; exact HS.out.1
  · have E := Lib.hid (show offF st g.toNat = (st, 110) by unfold offF; rw [if_pos (by omega)])
    have hg' : g < 1 ∨ (st.length : Int) < g := by omega
    clear hg hr h hi
    go_enter Try.func29, Try.ntmps29
    go_wp2_with (go_at_call 45; refine (has_out B U st.length c g _ hc hg' hn2).mono ?_; rintro e w' ⟨rfl, rfl⟩)
    go_ret
    exact ⟨by rw [E.out]; rfl, by rw [E.out]; exact HT.out, HT0.out⟩

theorem upsM_snoc (st : List Nd) (x : Nd) : upsM (st ++ [x]) = upsM st ++ [.int .i64 (x.parent : Int)] := by
  unfold upsM
  rw [show (st ++ [x]).length + 1 = st.length + 1 + 1 by simp, List.range_succ, List.map_append]
  congr 1
  · exact List.map_congr_left (fun k hk => by rw [nd_append_old _ _ (by simp at hk; omega)])
  · simp [nd_append_new]
theorem onsM_snoc (st : List Nd) (x : Nd) : onsM (st ++ [x]) = onsM st ++ [.bool (!x.off)] := by
  unfold onsM
  rw [show (st ++ [x]).length + 1 = st.length + 1 + 1 by simp, List.range_succ, List.map_append]
  congr 1
  · exact List.map_congr_left (fun k hk => by rw [nd_append_old _ _ (by simp at hk; omega)])
  · simp [nd_append_new]

theorem heap_set {W : World} {B : Nat} {cs : Array Value} {t : TypeId} {fr : Nat × Nat} (h : W.heap[B]? = some (.cells cs t fr)) (j : Nat) (u : Value) : (W.setCell ⟨B, j, none⟩ u).heap[B]? = some (.cells (cs.setIfInBounds j u) t fr) := by
  obtain ⟨hlt, hk⟩ := Array.getElem?_eq_some_iff.1 h
  show (W.heap.modify B _)[B]? = _
  rw [Array.getElem?_eq_getElem (by rw [Array.size_modify]; exact hlt), Array.getElem_modify_self, hk]
  rfl
theorem cell_one_new' (W : World) (v : Value) (t : TypeId) {H : Nat} (h : W.heap.size = H) : ∀ (j : Nat) (u : Value), [v][j]? = some u → (W.alloc (.cells #[v] t)).cell? ((⟨H, 0, none⟩ : Addr).add j) = some u := by
  subst h; exact cell_one_new _ _ _
theorem grownBy_setCell0 (W : World) (b j : Nat) (v : Value) : W.grownBy (W.setCell ⟨b, j, none⟩ v) (some b) :=
  ⟨rfl, rfl, rfl, by show W.heap.size ≤ (W.heap.modify b _).size; simp, fun k _ hk => Below.heap_setCell _ _ _ k (fun e => hk (by rw [e]))⟩
theorem cell_of_heap {W : World} {B : Nat} {cs : Array Value} {t : TypeId} (h : W.heap[B]? = some (.cells cs t (0, 0))) (j : Nat) : W.cell? ⟨B, j, none⟩ = cs[j]? ∧ W.frozen? ⟨B, j, none⟩ = false := by
  constructor <;> simp [World.cell?, World.frozen?, h]

theorem apart_types {W : World} {g h : Nat} {x y : Array Value} (h1 : W.heap[h]? = some (.cells x 4 (0, 0))) (h2 : W.heap[g]? = some (.cells y 3 (0, 0))) (e : g = h) : False := by
  subst e; rw [h1] at h2; injection h2 with h2; injection h2 with _ h2; cases h2

def RAddPost (B U O : Nat) (st : List Nd) (w w' : World) : Prop := ∃ U' O', MAt w' B U' O' st ∧ (U' = U ∨ w.heap.size ≤ U') ∧ (O' = O ∨ w.heap.size ≤ O') ∧ Turned (fun k => k = B ∨ k = U ∨ k = O) w w'

set_option maxRecDepth 100000 in
set_option maxHeartbeats 2000000 in
theorem radd_c (B U O : Nat) (st : List Nd) (p : Int) (w : World) (h : MAt w B U O st) (hi : Inv st) :
    Calls Try.prog 27 #[.pointer (some ⟨B, 0, none⟩), .int .i64 p] w fun e w' => e = .returned (.tuple #[.int .i64 ((addF st p.toNat).2.1 : Int), .int .i64 ((addF st p.toNat).2.2 : Int)]) ∧ RAddPost B U O (addF st p.toNat).1 w w' := by
  obtain ⟨i3, hi3, z31, z32, z33⟩ := info_parts info3
  obtain ⟨i4, hi4, z41, z42, z43⟩ := info_parts info4
  have hr := h.rd
  have hn2 := hi.few
  obtain ⟨c, hc⟩ := hr.bu
  obtain ⟨c', hc'⟩ := hr.bo
  have HT0 : Hid (RAddPost B U O st w w) := ⟨U, O, h, .inl rfl, .inl rfl, Turned.refl _ _⟩
  have HR := Lib.hid hr
  have HI : Hid (Inv st) := hi
  by_cases hg : 1 ≤ p ∧ p ≤ st.length
  · obtain ⟨k, rfl⟩ := Int.eq_ofNat_of_zero_le (show 0 ≤ p by omega)
    rw [Int.toNat_natCast]
    have hk1 : 1 ≤ k := by omega
    have hk2 : k ≤ st.length := by omega
    have c2 := hr.on k hk2
    cases ho : (nd st k).off with
    | true =>
      have E := Lib.hid (show addF st k = (st, 0, 110) by unfold addF; rw [if_pos ho])
      rw [ho] at c2
      clear hr h hi ho
      go_enter Try.func27, Try.ntmps27
      go_wp2_with (go_at_call 45; refine (has_in B U st.length c k _ hc hk1 hk2 hn2).mono ?_; rintro e w' ⟨rfl, rfl⟩)
      go_ret2
      exact ⟨by rw [E.out]; rfl, by rw [E.out]; exact HT0.out⟩
    | false =>
      have hd8 := hi.depth_le k
      rw [ho] at c2
      by_cases hl : st.length = 16
      · have E := Lib.hid (show addF st k = (st, 0, 5) by unfold addF; rw [if_neg (by rw [ho]; simp), if_pos (.inl hl)])
        have hlb : ((st.length : Int) == 16) = true := by simp; omega
        clear hr h hi ho hl
        go_enter Try.func27, Try.ntmps27
        go_wp2_with (first
          | (go_at_call 45; refine (has_in B U st.length c k _ hc hk1 hk2 hn2).mono ?_; rintro e w' ⟨rfl, rfl⟩)
          | (go_at_call 46; refine (rmany_c B U O _ st _ HR.out HI.out).mono ?_; rintro e w' ⟨rfl, rfl⟩))
        go_ret2
        exact ⟨by rw [E.out]; rfl, by rw [E.out]; exact HT0.out⟩
      · have hlb : ((st.length : Int) == 16) = false := by simp; omega
        -- the world behind Depth
        have hdep := rdepth_c B U O _ st k w hr hi
        rw [Int.toNat_natCast] at hdep
        have HD := Lib.hid hdep
        have HT := Lib.hid h
        by_cases hd : (nd st k).depth = 8
        · have E := Lib.hid (show addF st k = (st, 0, 5) by unfold addF; rw [if_neg (by rw [ho]; simp), if_pos (.inr hd)])
          have hdb : (((nd st k).depth : Int) == 8) = true := by simp; omega
          clear hr h hi ho hl hd hdep
          go_enter Try.func27, Try.ntmps27
          go_wp2_with (first
            | (go_at_call 45; refine (has_in B U st.length c k _ hc hk1 hk2 hn2).mono ?_; rintro e w' ⟨rfl, rfl⟩)
            | (go_at_call 46; refine (rmany_c B U O _ st _ HR.out HI.out).mono ?_; rintro e w' ⟨rfl, rfl⟩)
            | (go_at_call 47; refine HD.out.mono ?_; rintro e w1 ⟨rfl, hb1⟩))
          go_ret2
          exact ⟨by rw [E.out]; rfl, by rw [E.out]; exact ⟨U, O, HT.out.kept (S := fun _ => False) (Turned.of_below hb1) (fun h => h) (fun h => h) (fun h => h), .inl rfl, .inl rfl, Turned.of_below hb1⟩⟩
        · have E := Lib.hid (show addF st k = (st ++ [⟨k, (nd st k).depth + 1, false⟩], st.length + 1, 0) by unfold addF; rw [if_neg (by rw [ho]; simp), if_neg (by omega)])
          have hdb : (((nd st k).depth : Int) == 8) = false := by simp; omega
          have HI2 := Lib.hid (inv_add hi k)
          rw [E.out] at HI2
          clear hr h hi ho hd hdep
          generalize (nd st k).depth = d at *
          go_enter Try.func27, Try.ntmps27
          go_wp2_with fail
          refine (has_in B U st.length c k _ hc hk1 hk2 hn2).mono ?_
          rintro e w' ⟨rfl, rfl⟩
          go_wp2_with fail
          refine (rmany_c B U O _ st _ HR.out HI.out).mono ?_
          rintro e w' ⟨rfl, rfl⟩
          go_wp2_with fail
          refine HD.out.mono ?_
          rintro e w1 ⟨rfl, hb1⟩
          have hT1 := HT.out.kept (S := fun _ => False) (Turned.of_below hb1) (fun h => h) (fun h => h) (fun h => h)
          have ht1 : Turned (fun k => k = B ∨ k = U ∨ k = O) w w1 := Turned.of_below hb1
          obtain ⟨cu, co, hb, hu, hoo⟩ := hT1
          have hsz := hb1.size
          have c5 : w1.cell? ⟨B, 0, none⟩ = some (.slice (some ⟨U, 0, none⟩) (st.length + 1) cu) := by simp [World.cell?, hb]
          have hBl : B < w1.heap.size := (Array.getElem?_eq_some_iff.1 hb).1
          have HNE := Lib.hid HT.out.ne
          have HT1 := Lib.hid ht1
          have HBX := Lib.hid hb
          have HOO := Lib.hid hoo
          clear ht1 hb hoo hb1 hc hc' c2
          go_wp2_with (at_builtin; refine wpList_append_lies _ rfl _ _ 27 rfl 0 3 i3 (.int .i64 0) 1 8 Try.underlying27 hi3 z31 z32 z33 rfl (by decide) _ _ _ rfl (hu.alloc _) ⟨w1.heap.size, 0, none⟩ 1 1 [.int .i64 (k : Int)] rfl rfl ?c1 ?c2 ?cm ?c3 ?c4 ?c5 (w1.heap.size + 1) ?c6 ?_)
          case c1 => exact cell_one_new _ _ _
          case c2 => simp [Value.oneCell']
          case cm => omega
          case c3 => unfold maxLen; omega
          case c4 => omega
          case c5 => omega
          case c6 => simp
          intro g2 cap2 w2 hown2 hgrow2 hat2 _
          have tA : Turned (fun k => k = U) w1 w2 := (Turned.of_below ((Below.refl _ w1).alloc (Nat.le_refl _) (.cells #[.int .i64 (k : Int)] 3))).trans (Turned.of_grown hgrow2 (fun k e => by cases e; rfl))
          have hb2 := (tA.block B hBl HNE.out.1).trans HBX.out
          have hb3 := heap_set hb2 0 (.slice (some ⟨g2, 0, none⟩) (st.length + 1 + 1) cap2)
          have d0 := (cell_of_heap hb2 0).1
          have f0 := (cell_of_heap hb2 0).2
          have d1 := (cell_of_heap hb3 1).1
          have hs3 := grownBy_setCell0 w2 B 0 (.slice (some ⟨g2, 0, none⟩) (st.length + 1 + 1) cap2)
          have tB : Turned (fun k => k = B) w2 (w2.setCell ⟨B, 0, none⟩ (.slice (some ⟨g2, 0, none⟩) (st.length + 1 + 1) cap2)) := Turned.of_grown hs3 (fun k e => by cases e; rfl)
          have hoo3 := owns_turned (owns_turned HOO.out tA HNE.out.2.2.symm) tB HNE.out.2.1.symm
          have hBg : B ≠ g2 := by
            rcases hat2 with h | h
            · intro e; subst e; cases h; exact HNE.out.1 rfl
            · omega
          have hu3 := owns_turned hown2 tB hBg.symm
          have hsz2 := tA.size
          have hU2 : g2 = U ∨ w1.heap.size ≤ g2 := by
            rcases hat2 with h | h
            · left; cases h; rfl
            · right; omega
          have TA := Lib.hid tA
          have TB := Lib.hid tB
          have HB3 := Lib.hid hb3
          have HU3 := Lib.hid hu3
          have HG2 := Lib.hid hU2
          have HBG := Lib.hid hBg
          clear tA tB hb2 hb3 hu3 hu hown2 hgrow2 hat2 hs3 hU2 hBg c5
          simp only [List.getElem?_toArray, List.getElem?_cons_zero] at d0
          simp at d1
          go_wp2_with (at_builtin; refine wpList_append_lies _ rfl _ _ 22 rfl 0 4 i4 (.bool false) 1 1 Try.underlying22 hi4 z41 z42 z43 rfl (by decide) _ _ _ rfl (hoo3.alloc _) ⟨w2.heap.size, 0, none⟩ 1 1 [.bool true] rfl rfl ?c1 ?c2 ?cm ?c3 ?c4 ?c5 (w2.heap.size + 1) ?c6 ?_)
          case c1 => exact cell_one_new' _ _ _ (by show (w2.heap.modify B _).size = _; simp)
          case c2 => simp [Value.oneCell']
          case cm => omega
          case c3 => unfold maxLen; omega
          case c4 => omega
          case c5 => omega
          case c6 => rw [World.size_alloc]; show (w2.heap.modify B _).size + 1 = _; simp
          intro g4 cap4 w4 hown4 hgrow4 hat4 _
          have szs : (w2.setCell ⟨B, 0, none⟩ (.slice (some ⟨g2, 0, none⟩) (st.length + 1 + 1) cap2)).heap.size = w2.heap.size := by show (w2.heap.modify B _).size = _; simp
          have tC : Turned (fun k => k = O) (w2.setCell ⟨B, 0, none⟩ (.slice (some ⟨g2, 0, none⟩) (st.length + 1 + 1) cap2)) w4 := (Turned.of_below ((Below.refl _ _).alloc (Nat.le_refl _) (.cells #[.bool true] 4))).trans (Turned.of_grown hgrow4 (fun k e => by cases e; rfl))
          have hb4 := (tC.block B (by rw [szs]; omega) HNE.out.2.1).trans HB3.out
          have hb5 := heap_set hb4 1 (.slice (some ⟨g4, 0, none⟩) (st.length + 1 + 1) cap4)
          have e1 := (cell_of_heap hb4 1).1
          have fe1 := (cell_of_heap hb4 1).2
          have hs5 := grownBy_setCell0 w4 B 1 (.slice (some ⟨g4, 0, none⟩) (st.length + 1 + 1) cap4)
          have tD : Turned (fun k => k = B) w4 (w4.setCell ⟨B, 1, none⟩ (.slice (some ⟨g4, 0, none⟩) (st.length + 1 + 1) cap4)) := Turned.of_grown hs5 (fun k e => by cases e; rfl)
          have hG4 : g4 = O ∨ w2.heap.size ≤ g4 := by
            rcases hat4 with h | h
            · left; cases h; rfl
            · right; omega
          have hgO : g2 ≠ O := by
            intro e
            obtain ⟨x1, h1⟩ := owns_type hoo3
            obtain ⟨x2, h2⟩ := owns_type HU3.out
            exact apart_types h1 h2 e
          have hBg4 : B ≠ g4 := by
            rcases hG4 with h | h
            · rw [h]; exact HNE.out.2.1
            · omega
          have hMA : MAt (w4.setCell ⟨B, 1, none⟩ (.slice (some ⟨g4, 0, none⟩) (st.length + 1 + 1) cap4)) B g2 g4 (st ++ [⟨k, d + 1, false⟩]) := by
            have hl : (st ++ [(⟨k, d + 1, false⟩ : Nd)]).length + 1 = st.length + 1 + 1 := by simp
            refine ⟨cap2, cap4, ?_, ?_, ?_⟩
            · rw [hl]; simpa using hb5
            · rw [hl, upsM_snoc]; exact owns_turned (owns_turned HU3.out tC hgO) tD HBG.out.symm
            · rw [hl, onsM_snoc]; exact owns_turned hown4 tD hBg4.symm
          have hall : Turned (fun k => k = B ∨ k = U ∨ k = O) w (w4.setCell ⟨B, 1, none⟩ (.slice (some ⟨g4, 0, none⟩) (st.length + 1 + 1) cap4)) :=
            (((HT1.out.trans (TA.out.mono (fun k h => .inr (.inl h)))).trans (TB.out.mono (fun k h => .inl h))).trans (tC.mono (fun k h => .inr (.inr h)))).trans (tD.mono (fun k h => .inl h))
          have HP : Hid (RAddPost B U O (st ++ [⟨k, d + 1, false⟩]) w (w4.setCell ⟨B, 1, none⟩ (.slice (some ⟨g4, 0, none⟩) (st.length + 1 + 1) cap4))) :=
            ⟨g2, g4, hMA, HG2.out.imp id (fun h => by omega), hG4.imp id (fun h => by have := TA.out.size; omega), hall⟩
          have HRD := Lib.hid hMA.rd
          clear tC tD hb4 hb5 hs5 hG4 hgO hBg4 hMA hall hown4 hgrow4 hat4 hoo3 szs
          simp at e1
          go_wp2_with (go_at_call 46; refine (rmany_c B g2 g4 _ _ _ HRD.out HI2.out).mono ?_; rintro e w' ⟨rfl, rfl⟩)
          go_ret2
          exact ⟨by rw [E.out]; simp, by rw [E.out]; exact HP.out⟩
  · have E := Lib.hid (show addF st p.toNat = (st, 0, 110) by unfold addF; rw [nd_out (by omega)]; rfl)
    have hg' : p < 1 ∨ (st.length : Int) < p := by omega
    clear hg hr h hi
    go_enter Try.func27, Try.ntmps27
    go_wp2_with (go_at_call 45; refine (has_out B U st.length c p _ hc hg' hn2).mono ?_; rintro e w' ⟨rfl, rfl⟩)
    go_ret2
    exact ⟨by rw [E.out]; rfl, by rw [E.out]; exact HT0.out⟩
end Go.Proofs.Ytooonjoiidcmgaa
