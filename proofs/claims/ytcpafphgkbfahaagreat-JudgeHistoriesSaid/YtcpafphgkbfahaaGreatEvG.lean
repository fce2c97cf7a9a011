/- An evaluator of closed runs: operations that ask nothing of memory, all. -/
import Derived.Test.YtcpafphgkbfahaaGreatEvF
namespace Go.Proofs.YtcpafphgkbfahaaGreat
open Go Go.RowKit

variable {P : Program} {φ : Emb}
def Vals (P : Program) (φ : Emb) (s : Sem Value) (w : World) (v : Value) : Prop := ∃ v', s.run P w = .ok v' w ∧ VRel φ v v'
theorem Vals.next {s : Sem Value} {w : World} {v : Value} (h : Vals P φ s w v) : ∃ v', (do pure (Next.value (← s)) : Sem Next).run P w = .ok (.value v') w ∧ VRel φ v v' := by
  obtain ⟨v', h1, h2⟩ := h
  exact ⟨v', by simp [h1], h2⟩
theorem add_at (b off j : Nat) : (⟨b, off, none⟩ : Addr).add j = ⟨b, off + j, none⟩ := by
  unfold Addr.add; split
  · rename_i h; subst h; rfl
  · rfl
theorem ptr_rel {b o n : Nat} {i : BI} (h : φ b = some i) : VRel φ (.pointer (some (addA ⟨b, o, none⟩ n))) (.pointer (some ((⟨i.r, i.δ + o, none⟩ : Addr).add n))) := by
  rw [add_at, Nat.add_assoc]; exact .ptr h
theorem pFieldAddr_ok {T : Tr Value} {a : Act} (hT : TRel φ T a.tmps) {s : TypeId} {x : Operand} {f : Nat} {v : Value} (h : pFieldAddr P T s x f = some v) (w : World) : Vals P φ (Instr.fieldAt s (a.eval x) f) w v := by
  unfold pFieldAddr at h
  split at h
  · rename_i fields ad hs hx
    split at h
    · rename_i fd hf
      split at h
      · rename_i i hi
        obtain ⟨h1, h2⟩ := bif_none h
        cases h2
        have r := aev_rel hT hx
        generalize a.eval x = q at r
        cases r with
        | ptr e =>
          refine ⟨_, ?_, ptr_rel e⟩
          have hz : ¬ i.size = 0 := by
            rw [nat_beq_eq] at h1; simpa using h1
          simp [Instr.fieldAt, run_underlying hs, hf, Instr.sureAddr, fieldPlace, run_sz hi, hz]
      · cases h
    · cases h
  · cases h
theorem pIndexAddr_ok {T : Tr Value} {a : Act} (hT : TRel φ T a.tmps) {t : TypeId} {x ix : Operand} {v : Value} (h : pIndexAddr P T t x ix = some v) (w : World) : Vals P φ (Instr.indexAt t (a.eval x) (a.eval ix)) w v := by
  unfold pIndexAddr at h
  split at h
  · rename_i len elem ad k n ht hx hi
    split at h
    · rename_i e he
      obtain ⟨h1, h2⟩ := bif_some h
      cases h2
      have r := aev_rel hT hx
      have ri := aev_rel hT hi
      generalize a.eval x = q at r
      generalize a.eval ix = q' at ri
      cases ri
      have hlt : n < len := by rw [nat_blt_eq] at h1; simpa using h1
      have hb : 0 ≤ Int.ofNat n ∧ Int.ofNat n < (len : Int) := ⟨Int.natCast_nonneg n, Int.ofNat_lt.2 hlt⟩
      cases r with
      | ptr e' =>
        refine ⟨_, ?_, ptr_rel e'⟩
        simp [Instr.indexAt, run_underlying ht, asIntOf, Instr.sureAddr, run_sz he, hlt]
    · cases h
  · rename_i elem ad len c k n ht hx hi
    split at h
    · rename_i e he
      obtain ⟨h1, h2⟩ := bif_some h
      cases h2
      have r := aev_rel hT hx
      have ri := aev_rel hT hi
      generalize a.eval x = q at r
      generalize a.eval ix = q' at ri
      cases ri
      have hlt : n < len := by rw [nat_blt_eq] at h1; simpa using h1
      cases r with
      | slice e' =>
        refine ⟨_, ?_, ptr_rel e'⟩
        simp [Instr.indexAt, run_underlying ht, asIntOf, run_sz he, hlt]
      | sliceG e' =>
        refine ⟨_, ?_, ptr_rel (o := _) e'⟩
        simp [Instr.indexAt, run_underlying ht, asIntOf, run_sz he, hlt]
      | sliceE e' => omega
    · cases h
  · cases h
theorem pIndex_ok {T : Tr Value} {a : Act} (hT : TRel φ T a.tmps) {t : TypeId} {x ix : Operand} {v : Value} (h : pIndex P T t x ix = some v) (w : World) : Vals P φ (Instr.index t (a.eval x) (a.eval ix)) w v := by
  unfold pIndex at h
  split at h
  · rename_i len elem cs k n ht hx hi
    split at h
    · rename_i e he
      obtain ⟨h1, h2⟩ := bif_some h
      have r := aev_rel hT hx
      have ri := aev_rel hT hi
      generalize a.eval x = q at r
      generalize a.eval ix = q' at ri
      cases ri
      have hlt : n < len := by rw [nat_blt_eq] at h1; simpa using h1
      cases r with
      | agg ha hh =>
        obtain ⟨v', p1, p2⟩ := part_ok h2 (LRel.of_array ha hh) w
        refine ⟨v', ?_, p2⟩
        simp [Instr.index, run_underlying ht, asIntOf, run_sz he, hlt, p1]
    · cases h
  · rename_i s k n ht hx hi
    have r := aev_rel hT hx
    have ri := aev_rel hT hi
    generalize a.eval x = q at r
    generalize a.eval ix = q' at ri
    cases ri
    cases r
    have := runG_run h w
    exact ⟨v, this.1, this.2.1 φ⟩
  · cases h
theorem pField_ok {T : Tr Value} {a : Act} (hT : TRel φ T a.tmps) {t : TypeId} {x : Operand} {f : Nat} {v : Value} (h : pField P T t x f = some v) (w : World) : Vals P φ (Instr.field t (a.eval x) f) w v := by
  unfold pField at h
  split at h
  · rename_i fields cs ht hx
    split at h
    · rename_i fd hf
      have r := aev_rel hT hx
      generalize a.eval x = q at r
      cases r with
      | agg ha hh =>
        obtain ⟨v', p1, p2⟩ := part_ok h (LRel.of_array ha hh) w
        refine ⟨v', ?_, p2⟩
        simp [Instr.field, run_underlying ht, hf, asAgg, p1]
    · cases h
  · cases h
theorem pExtract_ok {T : Tr Value} {a : Act} (hT : TRel φ T a.tmps) {x : Operand} {ix : Nat} {v : Value} (h : pExtract T x ix = some v) (w : World) : Vals P φ (Instr.extract (a.eval x) ix) w v := by
  unfold pExtract at h
  split at h
  · rename_i vs hx
    have r := aev_rel hT hx
    generalize a.eval x = q at r
    cases r with
    | tuple ha hh =>
      obtain ⟨y, p1, p2⟩ := arr_get (LRel.of_array ha hh) h
      exact ⟨y, by simp [Instr.extract, p1], p2⟩
  · cases h
theorem pSlice_ok {T : Tr Value} {a : Act} (hT : TRel φ T a.tmps) {t : TypeId} {x : Operand} {lo hi mx : Option Operand} {v : Value} (h : pSlice P T t x lo hi mx = some v) (w : World) :
    Vals P φ (Instr.sliceAt t (a.eval x) (lo.map a.eval) (hi.map a.eval) (mx.map a.eval)) w v := by
  unfold pSlice at h
  split at h
  · rename_i u vl vh vm hx el eh em
    unfold aSlice at h
    have r := aev_rel hT hx
    split at h
    · rename_i n elem ad ht
      split at h
      · rename_i i l h' m hi' hb
        cases h
        generalize a.eval x = q at r
        obtain ⟨run, q1, q2, q3, q4⟩ := aBounds_run (P := P) hT el eh em hb (Nat.le_refl n) false w
        cases r with
        | ptr e =>
          rename_i b o j
          have hm : (if vm.isSome then m else n) = m := by
            cases hv : vm.isSome with
            | true => rfl
            | false => simp [q4 hv]
          rw [hm] at run
          refine ⟨_, by simp only [Instr.sliceAt, Sem.run_bind, run_underlying ht, Result.andThen_ok, Instr.sureAddr, Sem.run_pure, run, run_sz hi']; rfl, ?_⟩
          by_cases hl : m = l
          · subst hl
            simp only [if_true]
            have := VRel.slice (l := h' - m) (c := m - m) (o := o) e
            simpa [addA] using this
          · have hl' : Nat.beq m l = false := by rw [nat_beq_eq]; simpa using hl
            rw [if_neg hl, hl', add_at, Nat.add_assoc]
            exact VRel.slice e
      · cases h
    · rename_i elem ad len cap ht
      split at h
      · rename_i i l h' m hi' hb
        generalize a.eval x = q at r
        split at h
        · cases h
          cases r with
          | nilSlice =>
            obtain ⟨run, q1, q2, q3, q4⟩ := aBounds_run (P := P) hT el eh em hb (Nat.le_refl cap) true w
            have hm : (if vm.isSome then m else cap) = m := by
              cases hv : vm.isSome with
              | true => rfl
              | false => simp [q4 hv]
            rw [hm] at run
            refine ⟨.slice none (h' - l) (m - l), ?_, .nilSlice _ _⟩
            simp [Instr.sliceAt, Instr.slice, run_underlying ht, run, run_sz hi']
        · rename_i ad'
          split at h
          · rename_i hsp
            cases h
            cases r with
            | slice e =>
              obtain ⟨run, q1, q2, q3, q4⟩ := aBounds_run (P := P) hT el eh em hb (Nat.le_refl cap) true w
              have hm : (if vm.isSome then m else cap) = m := by
                cases hv : vm.isSome with
                | true => rfl
                | false => simp [q4 hv]
              rw [hm] at run
              refine ⟨_, by simp only [Instr.sliceAt, Instr.slice, Sem.run_bind, run_underlying ht, Result.andThen_ok, Sem.run_pure, run, run_sz hi']; rfl, ?_⟩
              by_cases hl : m = l
              · subst hl
                simp only [if_true]
                simpa [addA] using VRel.slice (l := h' - m) (c := m - m) e
              · have hl' : Nat.beq m l = false := by rw [nat_beq_eq]; simpa using hl
                rw [if_neg hl, hl', Option.map_some, add_at, Nat.add_assoc]
                exact VRel.slice e
            | sliceG e => cases hsp
            | sliceE e => cases hsp
          · rename_i es hsp
            obtain ⟨h1, h2⟩ := bif_some h
            cases h2
            have hes : es = i.size := by rw [nat_beq_eq] at h1; simpa using h1
            cases r with
            | slice e => cases hsp
            | sliceG e hc he hr =>
              rename_i b o c' es' j
              cases hsp
              subst hes
              obtain ⟨run, q1, q2, q3, q4⟩ := aBounds_run (P := P) hT el eh em hb hc true w
              refine ⟨_, by simp only [Instr.sliceAt, Instr.slice, Sem.run_bind, run_underlying ht, Result.andThen_ok, Sem.run_pure, run, run_sz hi']; rfl, ?_⟩
              cases hv : vm.isSome with
              | true =>
                simp only [if_true]
                by_cases hc0 : cap = 0
                · have e1 : m = 0 := by omega
                  have e2 : l = 0 := by omega
                  have e3 : h' = 0 := by omega
                  subst e1; subst e2; subst e3
                  rw [hc0]
                  exact VRel.sliceE e he (by omega)
                · have hc1 : Nat.beq cap 0 = false := by rw [nat_beq_eq]; simpa using hc0
                  rw [hc1]
                  by_cases hl : m = l
                  · subst hl
                    simp only [if_true]
                    simpa using VRel.slice (l := h' - m) (c := m - m) (o := o) e
                  · have hl' : Nat.beq m l = false := by rw [nat_beq_eq]; simpa using hl
                    rw [if_neg hl, hl', Option.map_some, add_at, Nat.add_assoc]
                    exact VRel.slice e
              | false =>
                have hmc := q4 hv
                simp only [Bool.false_eq_true, if_false, Bool.false_and, cond_false]
                have key : ∀ k, k ≤ c' → k * i.size + (c' - k) * i.size = c' * i.size := fun k hk => by rw [← Nat.add_mul]; congr 1; omega
                by_cases hl : m = l
                · have e3 : h' = l := by omega
                  subst e3; subst hl
                  have hl' : Nat.beq m m = true := Nat.beq_refl m
                  rw [hl']
                  simp only [cond_true, Nat.add_zero, Nat.sub_self]
                  by_cases hcl : c' = m
                  · rw [if_pos hcl, hcl, Nat.sub_self]
                    exact VRel.sliceE e he (by omega)
                  · rw [if_neg hcl, Option.map_some, add_at]
                    exact VRel.sliceE e he (by have := key m (by omega); omega)
                · have hl' : Nat.beq m l = false := by rw [nat_beq_eq]; simpa using hl
                  rw [if_neg (by omega), hl', Option.map_some, add_at, Nat.add_assoc]
                  exact VRel.sliceG e (by omega) he (by have := key l (by omega); rw [cond_false]; omega)
            | sliceE e he hr =>
              rename_i b o o' c' es' j
              cases hsp
              subst hes
              obtain ⟨run, q1, q2, q3, q4⟩ := aBounds_run (P := P) hT el eh em hb (Nat.zero_le c') true w
              have e1 : m = 0 := by omega
              have e2 : l = 0 := by omega
              have e3 : h' = 0 := by omega
              subst e1; subst e2; subst e3
              refine ⟨_, by simp only [Instr.sliceAt, Instr.slice, Sem.run_bind, run_underlying ht, Result.andThen_ok, Sem.run_pure, run, run_sz hi']; rfl, ?_⟩
              cases hv : vm.isSome with
              | true => exact VRel.sliceE e he (by simp only [if_true, Nat.sub_self, Nat.zero_mul]; omega)
              | false =>
                have : (if c' = 0 then some (⟨j.r, o', none⟩ : Addr) else Option.map (fun (x : Addr) => x.add (0 * i.size)) (some ⟨j.r, o', none⟩)) = some ⟨j.r, o', none⟩ := by
                  split
                  · rfl
                  · simp [add_at]
                simp only [Bool.false_eq_true, if_false, this]
                exact VRel.sliceE e he hr
      · cases h
    · rename_i s ht
      obtain ⟨h1, h2⟩ := bif_some h
      simp only [Bool.and_eq_true] at h1
      generalize a.eval x = q at r
      cases r
      have := runG_run h2 w
      have ho : ∀ {y : Option Operand} {u : Option Value}, aevo T y = some u → optG u = true → y.map a.eval = u := by
        intro y u e g
        unfold aevo at e
        split at e
        · cases e; rfl
        · split at e
          · rename_i u' hu
            cases e
            simp only [Option.map_some, Option.some.injEq]
            exact groundB_eq g (aev_rel hT hu)
          · cases e
      rw [ho el h1.1, ho eh h1.2.1, ho em h1.2.2]
      exact ⟨v, by simp [Instr.sliceAt, run_underlying ht, this.1], this.2.1 φ⟩
    · cases h
  · cases h

/-! ### struct and array literals -/
def PRel (φ : Emb) (a b : List (Nat × Value)) : Prop := LRel φ (a.map (·.2)) (b.map (·.2)) ∧ a.map (·.1) = b.map (·.1)
theorem foldl_set_rel (off : Nat) : ∀ (vs vs' : List Value) (k : Nat) (cs cs' : Array Value), LRel φ vs vs' → LRel φ cs.toList cs'.toList →
    LRel φ ((vs.zipIdx k).foldl (fun cs (c, j) => cs.setIfInBounds (off + j) c) cs).toList ((vs'.zipIdx k).foldl (fun cs (c, j) => cs.setIfInBounds (off + j) c) cs').toList
  | [], vs', k, cs, cs', h, r => by rw [h.nil_inv]; exact r
  | v :: vs, vs', k, cs, cs', h, r => by
    obtain ⟨y, b', rfl, h1, h2⟩ := h.cons_inv
    simp only [List.zipIdx_cons, List.foldl_cons]
    refine foldl_set_rel off vs b' (k + 1) _ _ h2 ?_
    have hs : cs.size = cs'.size := by simpa using r.1
    refine LRel.of_array (by simp [hs]) (fun j x y' p q => ?_)
    rw [Array.getElem?_setIfInBounds] at p q
    by_cases e : off + k = j
    · rw [if_pos e] at p q
      by_cases e2 : off + k < cs.size
      · rw [if_pos (by omega)] at p
        rw [if_pos (by omega)] at q
        cases p; cases q; exact h1
      · rw [if_neg (by omega)] at p; cases p
    · rw [if_neg e] at p q
      exact r.2 j x y' (by simpa using p) (by simpa using q)
theorem fill_rel (place : Nat → Option (Nat × Nat)) : ∀ (ps ps' : List (Nat × Value)) (cs cs' : Array Value) (out : Array Value), PRel φ ps ps' → LRel φ cs.toList cs'.toList → Instr.fill place cs ps = some out →
    ∃ out', Instr.fill place cs' ps' = some out' ∧ LRel φ out.toList out'.toList
  | [], ps', cs, cs', out, h, r, e => by
    have : ps' = [] := by
      cases ps' with
      | nil => rfl
      | cons p q => simp [PRel] at h
    subst this
    simp only [Instr.fill, Option.some.injEq] at e; subst e
    exact ⟨cs', rfl, r⟩
  | (i, v) :: ps, ps', cs, cs', out, h, r, e => by
    obtain ⟨h1, h2⟩ := h
    cases ps' with
    | nil => simp at h2
    | cons p q =>
      obtain ⟨i', v'⟩ := p
      simp only [List.map_cons, List.cons.injEq] at h2
      obtain ⟨hi, h3⟩ := h2
      have hi : i = i' := hi
      subst hi
      obtain ⟨y, b', hb, hv, hr⟩ := h1.cons_inv
      simp only [List.map_cons, List.cons.injEq] at hb
      obtain ⟨rfl, rfl⟩ := hb
      simp only [Instr.fill] at e ⊢
      split at e
      · cases e
      · rename_i off size hp
        have hsz : v.cells.size = v'.cells.size := by simpa using hv.cells.1
        have hcs : cs.size = cs'.size := by simpa using r.1
        rw [← hsz, ← hcs]
        split at e
        · cases e
        · rename_i hn
          rw [if_neg hn]
          have := foldl_set_rel off v.cells.toList v'.cells.toList 0 cs cs' hv.cells r
          rw [← Array.foldl_toList] at e
          rw [← Array.foldl_toList]
          simp only [Array.toList_zipIdx] at e ⊢
          exact fill_rel place ps q _ _ out ⟨hr, h3⟩ this e
theorem aParts_rel {T : Tr Value} {a : Act} (hT : TRel φ T a.tmps) : ∀ {ps : List (Nat × Operand)} {vs : List (Nat × Value)}, aParts T ps = some vs → PRel φ vs (ps.map fun (i, x) => (i, a.eval x))
  | [], vs, h => by simp [aParts] at h; subst h; exact ⟨LRel.nil _, rfl⟩
  | (i, x) :: ps, vs, h => by
    simp only [aParts] at h
    split at h
    · rename_i v ws h1 h2
      cases h
      have ih := aParts_rel hT h2
      exact ⟨LRel.cons (aev_rel hT h1) ih.1, by simp [ih.2]⟩
    · cases h
theorem pBuild_ok {T : Tr Value} {a : Act} (hT : TRel φ T a.tmps) {t : TypeId} {parts : Array (Nat × Operand)} {v : Value} (h : pBuild P T t parts = some v) (w : World) :
    Vals P φ (Instr.build t (parts.map fun (i, x) => (i, a.eval x))) w v := by
  unfold pBuild at h
  split at h
  · rename_i z fields ps hz ht hp
    obtain ⟨rz, gz⟩ := zeroOf_run hz w
    split at h
    · rename_i places hpl
      split at h
      · rename_i cs hcs
        cases h
        have hpr := aParts_rel hT hp
        obtain ⟨out', e, r⟩ := fill_rel (φ := φ) _ _ _ _ z.cells cs hpr (gz.1 φ).cells hcs
        refine ⟨.agg out', ?_, VRel.agg_list r⟩
        have hpl' := runPure_run hpl w
        simp only [Instr.build, Sem.run_bind, rz, Result.andThen_ok, run_underlying ht, hpl']
        simp only [Array.toList_map]
        rw [e]; rfl
      · cases h
    · cases h
  · rename_i z n elem ps hz ht hp
    obtain ⟨rz, gz⟩ := zeroOf_run hz w
    split at h
    · rename_i e he
      split at h
      · rename_i cs hcs
        cases h
        have hpr := aParts_rel hT hp
        obtain ⟨out', e', r⟩ := fill_rel (φ := φ) _ _ _ _ z.cells cs hpr (gz.1 φ).cells hcs
        refine ⟨.agg out', ?_, VRel.agg_list r⟩
        simp only [Instr.build, Sem.run_bind, rz, Result.andThen_ok, run_underlying ht, run_sz he]
        simp only [Array.toList_map]
        rw [e']; rfl
      · cases h
    · cases h
  · cases h
theorem pAssert_ok {T : Tr Value} {a : Act} (hT : TRel φ T a.tmps) {x : Operand} {xt asserted : TypeId} {ok : Bool} {v : Value} (h : pAssert P T x asserted ok = some v) (w : World) :
    Vals P φ (Instr.typeAssert (a.eval x) xt asserted ok) w v := by
  unfold pAssert at h
  split at h
  · cases h
  · rename_i d t u hni hd hx
    have r := aev_rel hT hx
    generalize a.eval x = q at r
    cases r with
    | iface _ r =>
      rename_i v'
      cases ht : Nat.beq t asserted with
      | true =>
        rw [ht] at h; simp only [cond_true, Option.some.injEq] at h
        have e : t = asserted := by rw [nat_beq_eq] at ht; simpa using ht
        subst e
        subst h
        refine ⟨if ok then .tuple #[v', .bool true] else v', ?_, ?_⟩
        · unfold Instr.typeAssert
          simp only [Sem.run_bind, run_underlying hd, Result.andThen_ok]
          cases d <;> first | (exact absurd rfl (hni _)) | simp
        · cases ok with
          | true => exact VRel.tuple_list (LRel.cons r (LRel.cons (.bool true) (LRel.nil _)))
          | false => exact r
      | false =>
        rw [ht] at h; simp only [cond_false] at h
        have e : ¬ t = asserted := by rw [nat_beq_eq] at ht; simpa using ht
        obtain ⟨h1, h2⟩ := bif_some h
        subst h1
        split at h2
        · rename_i z hz
          cases h2
          obtain ⟨rz, gz⟩ := zeroOf_run hz w
          refine ⟨.tuple #[z, .bool false], ?_, VRel.tuple_list (LRel.cons (gz.1 φ) (LRel.cons (.bool false) (LRel.nil _)))⟩
          unfold Instr.typeAssert
          simp only [Sem.run_bind, run_underlying hd, Result.andThen_ok]
          cases d <;> first | (exact absurd rfl (hni _)) | simp [e, rz]
        · cases h2
  · rename_i d hni hd hx
    have r := aev_rel hT hx
    generalize a.eval x = q at r
    cases r
    obtain ⟨h1, h2⟩ := bif_some h
    subst h1
    split at h2
    · rename_i z hz
      cases h2
      obtain ⟨rz, gz⟩ := zeroOf_run hz w
      refine ⟨.tuple #[z, .bool false], ?_, VRel.tuple_list (LRel.cons (gz.1 φ) (LRel.cons (.bool false) (LRel.nil _)))⟩
      unfold Instr.typeAssert
      simp only [Sem.run_bind, run_underlying hd, Result.andThen_ok]
      cases d <;> first | (exact absurd rfl (hni _)) | simp [rz]
    · cases h2
  · cases h
end Go.Proofs.YtcpafphgkbfahaaGreat
