/- An evaluator of closed runs: THE THEOREM: what it says of a call is what the call does, whatever the world. -/
import Derived.Test.YtcpafphgkbfahaaGreatEvT
namespace Go.Proofs.YtcpafphgkbfahaaGreat
open Go Go.RowKit
set_option linter.unusedSimpArgs false

variable {P : Program}
theorem evCode_ok {pt : Pt} {call : Callee'} {round : Rounder} (hc : CallOk P call) (hr : RoundOk P round) (hp : PtOk P pt) (hm : P.follows .mixedOrders = true) {ro : Option Nat} {nt lf : Nat} : ∀ c, CodeOk P ro nt (evCode P pt call round ro nt lf c) c := by
  intro c
  induction c with
  | skip => intro φ s e s' a w F n Q h hs hF hro hq; simp only [evCode_skip, evCode_label, evCode_regionF, evCode_regionT, evCode_seq, evCode_cond, evCode_block, evCode_loop, evCode_range, evCode_exit, evCode_scope, evCode_goto, evCode_ret, evCode_refuse, Option.some.injEq, Prod.mk.injEq] at h; obtain ⟨rfl, rfl⟩ := h; exact wpIn_skip (hq φ a w (WStep.refl _ _) hs)
  | label l => intro φ s e s' a w F n Q h hs hF hro hq; simp only [evCode_skip, evCode_label, evCode_regionF, evCode_regionT, evCode_seq, evCode_cond, evCode_block, evCode_loop, evCode_range, evCode_exit, evCode_scope, evCode_goto, evCode_ret, evCode_refuse, Option.some.injEq, Prod.mk.injEq] at h; obtain ⟨rfl, rfl⟩ := h; exact wpIn_label (hq φ a w (WStep.refl _ _) hs)
  | exit id => intro φ s e s' a w F n Q h hs hF hro hq; simp only [evCode_skip, evCode_label, evCode_regionF, evCode_regionT, evCode_seq, evCode_cond, evCode_block, evCode_loop, evCode_range, evCode_exit, evCode_scope, evCode_goto, evCode_ret, evCode_refuse, Option.some.injEq, Prod.mk.injEq] at h; obtain ⟨rfl, rfl⟩ := h; exact wpIn_exit (hq φ a w (WStep.refl _ _) hs)
  | goto l => intro φ s e s' a w F n Q h hs hF hro hq; simp only [evCode_skip, evCode_label, evCode_regionF, evCode_regionT, evCode_seq, evCode_cond, evCode_block, evCode_loop, evCode_range, evCode_exit, evCode_scope, evCode_goto, evCode_ret, evCode_refuse, Option.some.injEq, Prod.mk.injEq] at h; obtain ⟨rfl, rfl⟩ := h; exact wpIn_goto (hq φ a w (WStep.refl _ _) hs)
  | ret => intro φ s e s' a w F n Q h hs hF hro hq; simp only [evCode_skip, evCode_label, evCode_regionF, evCode_regionT, evCode_seq, evCode_cond, evCode_block, evCode_loop, evCode_range, evCode_exit, evCode_scope, evCode_goto, evCode_ret, evCode_refuse, Option.some.injEq, Prod.mk.injEq] at h; obtain ⟨rfl, rfl⟩ := h; exact wpIn_ret (hq φ a w (WStep.refl _ _) hs)
  | refuse why => intro φ s e s' a w F n Q h; simp [evCode_skip, evCode_label, evCode_regionF, evCode_regionT, evCode_seq, evCode_cond, evCode_block, evCode_loop, evCode_range, evCode_exit, evCode_scope, evCode_goto, evCode_ret, evCode_refuse] at h
  | region id ops draw =>
    intro φ s e s' a w F n Q h hs hF hro hq
    cases draw with
    | false =>
      simp only [evCode_skip, evCode_label, evCode_regionF, evCode_regionT, evCode_seq, evCode_cond, evCode_block, evCode_loop, evCode_range, evCode_exit, evCode_scope, evCode_goto, evCode_ret, evCode_refuse] at h
      split at h
      · rename_i T A hrun
        cases h
        exact region_ok hc hr hp hm (ro := ro) (draw := false) (by simpa using hrun) hs hF hq
      · cases h
    | true =>
      simp only [evCode_skip, evCode_label, evCode_regionF, evCode_regionT, evCode_seq, evCode_cond, evCode_block, evCode_loop, evCode_range, evCode_exit, evCode_scope, evCode_goto, evCode_ret, evCode_refuse] at h
      split at h
      · rename_i T A hrun
        cases h
        exact region_ok hc hr hp hm (ro := ro) (draw := true) (by simpa using hrun) hs hF hq
      · cases h
  | seq x y ihx ihy =>
    intro φ s e s' a w F n Q h hs hF hro hq
    refine wpIn_seq ?_
    simp only [evCode_skip, evCode_label, evCode_regionF, evCode_regionT, evCode_seq, evCode_cond, evCode_block, evCode_loop, evCode_range, evCode_exit, evCode_scope, evCode_goto, evCode_ret, evCode_refuse] at h
    split at h
    · rename_i s1 h1
      exact ihx φ s .normal s1 a w F n _ h1 hs hF hro (fun ψ a' w' st hs' => ihy ψ s1 e s' a' w' F n Q h hs' hF (hro.mono st.ext) (fun χ a2 w2 st2 hs2 => hq χ a2 w2 (st.trans st2) hs2))
    · rename_i hne
      refine ihx φ s e s' a w F n _ h hs hF hro (fun ψ a' w' st hs' => ?_)
      have hQ := hq ψ a' w' st hs'
      cases e with
      | normal => exact absurd h (hne s')
      | exit id => exact hQ
      | goto l => exact hQ
      | ret => exact hQ
  | cond c x y ihx ihy =>
    intro φ s e s' a w F n Q h hs hF hro hq
    simp only [evCode_skip, evCode_label, evCode_regionF, evCode_regionT, evCode_seq, evCode_cond, evCode_block, evCode_loop, evCode_range, evCode_exit, evCode_scope, evCode_goto, evCode_ret, evCode_refuse] at h
    split at h
    · rename_i hcd
      have r := aev_rel hs.tmps hcd
      generalize hg : a.eval c = q at r
      cases r
      exact wpIn_cond_true hg (ihx φ s e s' a w F n Q h hs hF hro hq)
    · rename_i hcd
      have r := aev_rel hs.tmps hcd
      generalize hg : a.eval c = q at r
      cases r
      exact wpIn_cond_false hg (ihy φ s e s' a w F n Q h hs hF hro hq)
    · cases h
  | block id x ih =>
    intro φ s e s' a w F n Q h hs hF hro hq
    refine wpIn_block ?_
    simp only [evCode_skip, evCode_label, evCode_regionF, evCode_regionT, evCode_seq, evCode_cond, evCode_block, evCode_loop, evCode_range, evCode_exit, evCode_scope, evCode_goto, evCode_ret, evCode_refuse] at h
    split at h
    · rename_i id' s1 h1
      refine ih φ s (.exit id') s1 a w F n _ h1 hs hF hro (fun ψ a' w' st hs' => ?_)
      simp only [AExit.real, Exit.inBlock]
      cases hid : Nat.beq id' id with
      | true =>
        rw [hid, cond_true] at h
        cases h
        rw [nat_beq_eq, decide_eq_true_iff] at hid
        rw [if_pos hid]
        exact hq ψ a' w' st hs'
      | false =>
        rw [hid, cond_false] at h
        cases h
        rw [nat_beq_eq, decide_eq_false_iff_not] at hid
        rw [if_neg hid]
        exact hq ψ a' w' st hs'
    · rename_i hne
      refine ih φ s e s' a w F n _ h hs hF hro (fun ψ a' w' st hs' => ?_)
      have hQ := hq ψ a' w' st hs'
      cases e with
      | exit id' => exact absurd h (hne id' s')
      | normal => exact hQ
      | goto l => exact hQ
      | ret => exact hQ
  | loop x ih =>
    intro φ s e s' a w F n Q h hs hF hro hq
    simp only [evCode_skip, evCode_label, evCode_regionF, evCode_regionT, evCode_seq, evCode_cond, evCode_block, evCode_loop, evCode_range, evCode_exit, evCode_scope, evCode_goto, evCode_ret, evCode_refuse] at h
    exact wpIn_loop_rounds lf (iter_ok ih lf φ s e s' a w F n Q h hs hF hro hq)
  | rangeFunc g ps as_ body _ _ =>
    intro φ s e s' a w F n Q h hs hF hro hq
    simp only [evCode_skip, evCode_label, evCode_regionF, evCode_regionT, evCode_seq, evCode_cond, evCode_block, evCode_loop, evCode_range, evCode_exit, evCode_scope, evCode_goto, evCode_ret, evCode_refuse] at h
    exact rangeF_ok hc φ s e s' a w F n Q h hs hF hro hq
  | scope x ih =>
    intro φ s e s' a w F n Q h hs hF hro hq
    refine wpIn_scope' ?_
    simp only [evCode_skip, evCode_label, evCode_regionF, evCode_regionT, evCode_seq, evCode_cond, evCode_block, evCode_loop, evCode_range, evCode_exit, evCode_scope, evCode_goto, evCode_ret, evCode_refuse] at h
    split at h
    · cases h
    · rename_i hne
      refine ih φ s e s' a w F n _ h hs hF hro (fun ψ a' w' st hs' => ?_)
      have hQ := hq ψ a' w' st hs'
      cases e with
      | goto l => exact absurd h (hne l s')
      | normal => exact hQ
      | exit id => exact hQ
      | ret => exact hQ
theorem params_rel {φ : Emb} {nt : Nat} : ∀ (ps : List Tmp) (args args' : List Value) (T : Tr Value) (T' : Array Value), ps.all (fun t => Nat.blt t nt) = true → LRel φ args args' → T'.size = nt → TRel φ T T' →
    TRel φ ((ps.zip args).foldl (fun T (t, v) => T.put t (some v)) T) ((ps.zip args').foldl (fun tmps (t, a) => tmps.setIfInBounds t a) T') ∧ ((ps.zip args').foldl (fun tmps (t, a) => tmps.setIfInBounds t a) T').size = nt
  | [], args, args', T, T', _, _, hs, hT => by simp; exact ⟨hT, hs⟩
  | p :: ps, args, args', T, T', hp, hr, hs, hT => by
    cases args with
    | nil => rw [hr.nil_inv]; simp; exact ⟨hT, hs⟩
    | cons v args =>
      obtain ⟨v', b', rfl, h1, h2⟩ := hr.cons_inv
      simp only [List.all_cons, Bool.and_eq_true, nat_blt_eq, decide_eq_true_eq] at hp
      simp only [List.zip_cons_cons, List.foldl_cons]
      refine params_rel ps args b' _ _ (by simpa [nat_blt_eq] using hp.2) h2 (by simpa using hs) (fun t u e => ?_)
      rw [Tr.get_put] at e
      rw [Array.getElem?_setIfInBounds]
      by_cases ht : t = p
      · subst ht
        rw [if_pos rfl] at e; cases e
        rw [if_pos rfl, if_pos (by omega)]
        exact ⟨v', rfl, h1⟩
      · rw [if_neg ht] at e
        rw [if_neg (Ne.symm ht)]
        exact hT t u e
theorem evRound_ok {pt : Pt} {call : Callee'} {round : Rounder} (hc : CallOk P call) (hr : RoundOk P round) (hp : PtOk P pt) (hm : P.follows .mixedOrders = true) {lf : Nat} : RoundOk P (evRound P pt call round lf) := by
  intro l args A v A' h φ w args' i hW hi hargs
  unfold evRound at h
  split at h
  · rename_i st p T nt ps as_ body d hl
    obtain ⟨T', fn, d', g1, g2, g3, g4⟩ := getLoopObj hW hl hi
    obtain ⟨h1, h⟩ := bif_some h
    simp only [Bool.and_eq_true, nat_beq_eq, decide_eq_true_eq] at h1
    obtain ⟨hlen, hps⟩ := h1
    simp only [] at h
    have hsz : args'.size = ps.size := by have := hargs.1; simp at this; omega
    have hy := run_yield (P := P) (args := args') g1 hsz
    refine ⟨fn, _, as_, body, hy, fun F n hF => roundIn_of_wpIn (hF.1 fn) ?_⟩
    simp only []
    have hzip : (ps.zip args').foldl (fun tmps (t, a) => tmps.setIfInBounds t a) T' = (ps.toList.zip args'.toList).foldl (fun tmps (t, a) => tmps.setIfInBounds t a) T' := by
      rw [← Array.foldl_toList, Array.toList_zip]
    obtain ⟨q1, q2⟩ := params_rel ps.toList args args'.toList T T' (by rw [← hps, Array.all_toList]) hargs g2 g3
    have hF' : Wide (F.inRound i.r) := wide_inRound hF i.r
    split at h
    · rename_i s1 hs1
      split at h
      · rename_i p1 T1 n1 ps1 as1 b1 d1 hl1
        split at h
        · rename_i e2 s2 hs2
          split at h
          · rename_i st3 p3 T3 n3 ps3 as3 b3 d3 hl3
            cases h
            rw [hzip]
            refine evCode_ok hc hr hp hm (ro := some l) (nt := nt) (lf := lf) as_ φ _ .normal s1 _ w (F.inRound i.r) n _ hs1 ⟨q1, q2, trivial, hW⟩ hF' ⟨i, hi, rfl⟩ (fun ψ a1 w1 st1 hsr1 => ?_)
            have hi1 := st1.ext _ _ hi
            obtain ⟨U1, f1, e1, u1, u2, u3, u4⟩ := getLoopObj hsr1.mem hl1 hi1
            obtain ⟨x1, x2⟩ := loop_put (st := .busy) (p := p1) (ps := ps1) (as_ := as1) (body := b1) (fn := f1) hsr1.mem hl1 rfl hi1 u2 u3 u4
            refine ⟨_, run_beginRound u1 rfl, ?_⟩
            refine evCode_ok hc hr hp hm (ro := some l) (nt := nt) (lf := lf) body ψ _ e2 s2 a1 _ (F.inRound i.r) n _ hs2 ⟨hsr1.tmps, hsr1.size, hsr1.marks, x1⟩ hF' ⟨i, hi1, rfl⟩ (fun χ a2 w2 st2 hsr2 => ?_)
            have hi2 := st2.ext _ _ hi1
            obtain ⟨U3, f3, e3, y1, y2, y3, y4⟩ := getLoopObj hsr2.mem hl3 hi2
            have fin : ∀ (jmp : Option Code), ∃ v' w', (Instr.endRound i.r jmp).run P w2 = .ok v' w' ∧ Out φ w (.bool jmp.isNone) (s2.W.set l (some (.loop (bif jmp.isNone then .ready else .done) jmp T3 n3 ps3 as3 b3 d3))) (.returned v') w' := by
              intro jmp
              obtain ⟨z1, z2⟩ := loop_put (st := bif jmp.isNone then .ready else .done) (p := jmp) (ps := ps3) (as_ := as3) (body := b3) (fn := f3) hsr2.mem hl3 rfl hi2 y2 y3 y4
              refine ⟨_, _, run_endRound jmp y1, χ, .bool jmp.isNone, rfl, .bool _, ?_, ?_⟩
              · cases jmp <;> exact z1
              · cases jmp <;> exact (st1.trans x2).trans (st2.trans z2)
            cases e2 with
            | normal => exact fin none
            | ret => exact fin (some .ret)
            | exit id => exact fin (some (.exit id))
            | goto t => exact fin (some (.goto t))
          · cases h
        · cases h
      · cases h
    · cases h
  · cases h
end Go.Proofs.YtcpafphgkbfahaaGreat
