/- An evaluator of closed runs: the builtins that act. -/
import Derived.Test.YtcpafphgkbfahaaGreatEvM
namespace Go.Proofs.YtcpafphgkbfahaaGreat
open Go Go.RowKit

variable {P : Program} {φ : Emb}
theorem map_ints (l : List UInt8) : ∀ (φ : Emb), LRel φ (l.map fun b => Value.int .u8 b.toNat) (l.map fun b => Value.int .u8 b.toNat) := fun φ =>
  ⟨rfl, fun j x y e f => by
    have := e.symm.trans f; cases this
    rw [List.getElem?_map] at e
    cases h : l[j]? with
    | none => rw [h] at e; cases e
    | some b => rw [h] at e; cases e; exact .int _ _⟩
theorem firstN_ok {A : AW} {w : World} (hW : WRel φ A w) {es m : Nat} {x x' : Value} {new : List Value} (h : firstN A es m x = some new) (hm : ∀ b c, x = .slice b 0 c → m = 0) (r : VRel φ x x') :
    ∃ arr : Array Value, LRel φ new arr.toList ∧ ∀ w' : World, w'.heap = w.heap → (Builtin.firstCells es m x').run P w' = .ok arr w' := by
  unfold firstN at h
  split at h
  · rename_i ad l c
    cases r with
    | slice e =>
      obtain ⟨old', q1, q2, q3⟩ := first_load (P := P) (cap := c) hW e h
      refine ⟨old'.toArray, by simpa using q1, fun w' hw' => ?_⟩
      have := q3 w' hw'
      simp only [Builtin.firstCells] at this ⊢
      exact this
    | sliceG e hc he hr =>
      obtain ⟨old', q1, q2, q3⟩ := first_load (P := P) (cap := c) hW e h
      refine ⟨old'.toArray, by simpa using q1, fun w' hw' => ?_⟩
      have := q3 w' hw'
      simp only [Builtin.firstCells] at this ⊢
      exact this
    | sliceE e he hr =>
      have h0 := hm _ _ rfl
      subst h0
      have hz : Nat.beq (0 * es) 0 = true := by rw [nat_beq_eq]; simp
      rw [hz] at h; simp only [cond_true, Option.some.injEq] at h; subst h
      exact ⟨#[], LRel.nil _, fun w' _ => by simp [Builtin.firstCells, loadCells, loadCellsFrom]⟩
  · cases h; cases r
    exact ⟨#[], LRel.nil _, fun w' _ => by simp [Builtin.firstCells]⟩
  · rename_i s
    cases h; cases r
    refine ⟨(s.extract 0 m).data.map fun b => Value.int .u8 b.toNat, ?_, fun w' _ => by simp [Builtin.firstCells]⟩
    rw [Array.toList_map]
    exact map_ints _ φ
  · cases h
theorem lenOf_ok {x x' : Value} {n : Nat} (h : lenOfV x = some n) (r : VRel φ x x') (w : World) : (Builtin.lenOf x').run P w = .ok n w := by
  unfold lenOfV at h
  split at h
  · cases h; cases r <;> simp [Builtin.lenOf]
  · cases h; cases r; simp [Builtin.lenOf]
  · cases h
theorem list2 {a b : Value} {l : List Value} (r : LRel φ [a, b] l) : ∃ x y, l = [x, y] ∧ VRel φ a x ∧ VRel φ b y := by
  obtain ⟨x, t, rfl, h1, h2⟩ := r.cons_inv
  obtain ⟨y, t', rfl, h3, h4⟩ := h2.cons_inv
  rw [h4.nil_inv]
  exact ⟨x, y, rfl, h1, h3⟩
theorem list1 {a : Value} {l : List Value} (r : LRel φ [a] l) : ∃ x, l = [x] ∧ VRel φ a x := by
  obtain ⟨x, t, rfl, h1, h2⟩ := r.cons_inv
  rw [h2.nil_inv]
  exact ⟨x, rfl, h1⟩
theorem bif_not {α : Type} {b : Bool} {x : Option α} {v : α} (h : (bif !b then none else x) = some v) : b = true ∧ x = some v := by
  cases b with
  | true => exact ⟨rfl, h⟩
  | false => cases h
def builtinSem (b : Builtin) (argTypes : Array TypeId) (ty : TypeId) (args : Array Value) : Sem Value :=
  match b with
  | .append => Builtin.append_ argTypes ty args
  | .copy => Builtin.copy_ argTypes ty args
  | .clear => Builtin.clear_ argTypes ty args
  | .delete => Builtin.delete_ argTypes ty args
  | _ => stuck ""
/-- nothing is copied -/
theorem firstN_zero {es : Nat} {x x' : Value} {n : Nat} (hn : lenOfV x = some n) (r : VRel φ x x') (w : World) : (Builtin.firstCells es 0 x').run P w = .ok #[] w := by
  unfold lenOfV at hn
  split at hn
  · cases r <;> simp [Builtin.firstCells, loadCells, loadCellsFrom]
  · cases r; simp [Builtin.firstCells]
  · cases hn
theorem ERel.eraseIdx : ∀ {es es' : List MapEntry} (i : Nat), ERel φ es es' → ERel φ (es.eraseIdx i) (es'.eraseIdx i)
  | [], es', i, r => by rw [r.nil_inv]; exact ERel.nil
  | u :: es, es', i, r => by
    obtain ⟨v, t, rfl, h1, h2⟩ := r.cons_inv
    cases i with
    | zero => exact h2
    | succ i => exact ERel.cons h1 (ERel.eraseIdx i h2)
theorem aClear_ok {A A' : AW} {w : World} (hW : WRel φ A w) {argTypes : Array TypeId} {ty t : TypeId} {d : TypeDesc} (h0 : argTypes[0]? = some t) (h1 : P.underlying t = some d) {x x' : Value} (r : VRel φ x x') {v : Value} (h : aClear P A d x = some (v, A')) :
    DoesV P φ w (Builtin.clear_ argTypes ty #[x']) v A' := by
  unfold aClear at h
  split at h
  · cases h; cases r
    exact ⟨w, φ, .tuple #[], by simp [Builtin.clear_, h0, run_underlying h1], VRel.undef φ, hW, WStep.refl _ _⟩
  · rename_i b
    split at h
    · rename_i es clock hl
      cases h
      obtain ⟨i, es', hi, rfl, hg, he⟩ := map_at hW hl r
      have hgo := getMap (P := P) hg
      obtain ⟨q1, q2⟩ := put_rel (o' := .map #[] clock) (o2 := .map [] clock) hW hl hi rfl (fun w' hw => ⟨_, hw, ERel.nil⟩)
      exact ⟨_, φ, .tuple #[], by simp [Builtin.clear_, h0, run_underlying h1, hgo, setMap _ hg], VRel.undef φ, q1, q2⟩
    · cases h
  · rename_i base len c
    cases hl : Nat.beq len 0 with
    | true =>
      rw [hl, cond_true] at h
      rw [nat_beq_eq, decide_eq_true_iff] at hl
      subst hl
      cases h
      cases r <;> exact ⟨w, φ, .tuple #[], by simp [Builtin.clear_, h0, run_underlying h1], VRel.undef φ, hW, WStep.refl _ _⟩
    | false =>
      rw [hl, cond_false] at h
      rw [nat_beq_eq, decide_eq_false_iff_not] at hl
      split at h
      · rename_i elem ad
        split at h
        · rename_i z hz
          obtain ⟨z1, z2⟩ := zeroOf_run hz w
          split at h
          · rename_i A1 hs
            cases h
            obtain ⟨l, rfl⟩ : ∃ l, len = l + 1 := ⟨len - 1, by omega⟩
            cases r with
            | slice e =>
              obtain ⟨w1, p1, p2, p3⟩ := store_rel (P := P) hW e hs (z2.cellsG φ (l + 1))
              exact ⟨w1, φ, .tuple #[], by simp [Builtin.clear_, h0, run_underlying h1, z1, zeroCells_eq, p1], VRel.undef φ, p2, p3⟩
            | sliceG e hc he hr =>
              obtain ⟨w1, p1, p2, p3⟩ := store_rel (P := P) hW e hs (z2.cellsG φ (l + 1))
              exact ⟨w1, φ, .tuple #[], by simp [Builtin.clear_, h0, run_underlying h1, z1, zeroCells_eq, p1], VRel.undef φ, p2, p3⟩
          · cases h
        · cases h
      · cases h
  · cases h
theorem heavyBuiltin_kind {W A' : AW} {b : Builtin} {argTypes : Array TypeId} {vs : List Value} {v : Value} (h : heavyBuiltin P W b argTypes vs = some (v, A')) : b = .append ∨ b = .copy ∨ b = .clear ∨ b = .delete := by
  unfold heavyBuiltin at h
  split at h <;> first
    | exact .inl rfl
    | exact .inr (.inl rfl)
    | exact .inr (.inr (.inl rfl))
    | exact .inr (.inr (.inr rfl))
    | cases h
theorem heavyBuiltin_ok {A A' : AW} {w : World} (hW : WRel φ A w) {b : Builtin} {argTypes : Array TypeId} {ty : TypeId} {vs vs' : List Value} (r : LRel φ vs vs') {v : Value} (h : heavyBuiltin P A b argTypes vs = some (v, A')) :
    DoesV P φ w (builtinSem b argTypes ty vs'.toArray) v A' := by
  unfold heavyBuiltin at h
  split at h
  · -- append
    rename_i base len cap x
    obtain ⟨bv, x', rfl, rb, rx⟩ := list2 r
    split at h
    · rename_i st xd hst0 hxd0
      obtain ⟨xt, hx0, hx1⟩ := optB hxd0
      split at h
      · rename_i elem hst
        split at h
        · rename_i i z hi hz
          obtain ⟨h1, h⟩ := bif_not h
          obtain ⟨h2, h⟩ := bif_not h
          rw [nat_beq_eq, decide_eq_true_iff] at h1
          rw [nat_ble_eq, decide_eq_true_iff] at h2
          have h2 : i.bytes ≤ 1000000 := h2
          cases hd : intDesc xd with
          | true =>
            rw [hd, cond_true] at h
            obtain ⟨k, n, rfl, h3, h9⟩ : ∃ k n, x = .int k (.ofNat n) ∧ Nat.ble n small = true ∧ aAppend A i.size base len cap n (zerosN z.cells.toList n) = some (v, A') := by
              split at h
              · exact ⟨_, _, rfl, bif_some h⟩
              · cases h
            rw [nat_ble_eq, decide_eq_true_iff] at h3
            have h3 : n ≤ 1000000 := h3
            cases rx
            obtain ⟨k0, rfl⟩ : ∃ k0, xd = .int k0 := by cases xd <;> first | exact ⟨_, rfl⟩ | (simp [intDesc] at hd)
            exact aAppend_ok (ty := ty) hW hst0 hx0 hst hx1 hi hz h1 h2 (fun w' _ => .inl ⟨k0, k, rfl, rfl, h3, rfl⟩) (by simpa using (zeroOf_run hz w).2.cellsG φ n) (by rw [zeros_rows z i.size n h1]) rb h9
          | false =>
            rw [hd, cond_false] at h
            obtain ⟨h3, h⟩ := bif_some h
            split at h
            · rename_i n hn
              split at h
              · rename_i new hnew
                obtain ⟨h4, h⟩ := bif_some h
                rw [nat_beq_eq, decide_eq_true_iff] at h4
                obtain ⟨arr, q1, q2⟩ := firstN_ok (P := P) hW hnew (fun b c e => by subst e; simp only [lenOfV, Option.some.injEq] at hn; exact hn.symm) rx
                exact aAppend_ok (ty := ty) hW hst0 hx0 hst hx1 hi hz h1 h2 (fun w' hw' => .inr ⟨h3, lenOf_ok hn rx w', q2 w' hw'⟩) q1 h4 rb h
              · cases h
            · cases h
        · cases h
      · cases h
    · cases h
  · -- copy
    rename_i base dl c x
    obtain ⟨bv, x', rfl, rb, rx⟩ := list2 r
    split at h
    · rename_i st hst0
      split at h
      · rename_i elem hst
        split at h
        · rename_i i n hi hn
          split at h
          · rename_i cs hcs
            obtain ⟨arr, q1, q2⟩ := firstN_ok (P := P) hW hcs (fun b c e => by subst e; simp only [lenOfV, Option.some.injEq] at hn; subst hn; exact Nat.zero_min _) rx
            have q3 := q2 w rfl
            have q4 := lenOf_ok (P := P) hn rx w
            split at h
            · cases h; cases rb
              refine ⟨w, φ, .int .i64 (Nat.min n dl), ?_, .int _ _, hW, WStep.refl _ _⟩
              simp [builtinSem, Builtin.copy_, hst0, run_underlying hst, q4, run_sz hi, q3, goInt]
            · rename_i ad
              cases hdl : Nat.beq dl 0 with
              | true =>
                rw [hdl, cond_true] at h
                rw [nat_beq_eq, decide_eq_true_iff] at hdl
                subst hdl
                cases h
                have q0 := firstN_zero (P := P) (es := i.size) hn rx w
                refine ⟨w, φ, .int .i64 0, ?_, .int _ _, hW, WStep.refl _ _⟩
                cases rb <;> simp [builtinSem, Builtin.copy_, hst0, run_underlying hst, q4, run_sz hi, q0, goInt, storeCells]
              | false =>
                rw [hdl, cond_false] at h
                split at h
                · rename_i A1 hs
                  cases h
                  cases rb with
                  | slice e =>
                    obtain ⟨w1, p1, p2, p3⟩ := store_rel (P := P) hW e hs q1
                    refine ⟨w1, φ, .int .i64 (Nat.min n dl), ?_, .int _ _, p2, p3⟩
                    simp [builtinSem, Builtin.copy_, hst0, run_underlying hst, q4, run_sz hi, q3, goInt, p1]
                  | sliceG e hc he hr =>
                    obtain ⟨w1, p1, p2, p3⟩ := store_rel (P := P) hW e hs q1
                    refine ⟨w1, φ, .int .i64 (Nat.min n dl), ?_, .int _ _, p2, p3⟩
                    simp [builtinSem, Builtin.copy_, hst0, run_underlying hst, q4, run_sz hi, q3, goInt, p1]
                  | sliceE e he hr => cases hdl
                · cases h
          · cases h
        · cases h
      · cases h
    · cases h
  · -- clear
    obtain ⟨x', rfl, rx⟩ := list1 r
    split at h
    · rename_i d hd
      obtain ⟨t, h0, h1⟩ := optB hd
      exact aClear_ok (ty := ty) hW h0 h1 rx h
    · cases h
  · -- delete
    rename_i rm k
    obtain ⟨m', k', rfl, r1, r2⟩ := list2 r
    split at h
    · rename_i kt et ht
      obtain ⟨t, h0, h1⟩ := optB ht
      split at h
      · obtain ⟨h2, h3⟩ := bif_some h
        cases h3
        obtain ⟨c1, c2⟩ := keyOk_run h2 w
        rw [groundB_eq c2 r2]
        cases r1
        exact ⟨w, φ, .tuple #[], by simp [builtinSem, Builtin.delete_, h0, run_underlying h1, c1], VRel.undef φ, hW, WStep.refl _ _⟩
      · rename_i b
        split at h
        · rename_i es clock hl
          obtain ⟨h2, h3⟩ := bif_some h
          obtain ⟨c1, c2⟩ := keyOk_run h2 w
          rw [groundB_eq c2 r2]
          obtain ⟨i, es', hi, rfl, hg, he⟩ := map_at hW hl r1
          have hgo := getMap (P := P) hg
          rw [← isEmpty_len he] at c1
          split at h3
          · rename_i n v0 hs
            cases h3
            obtain ⟨r', p, s⟩ := seekKey_rel he hs w
            cases r' with
            | none => exact s.elim
            | some n' =>
              obtain ⟨n', v1⟩ := n'
              have hn : n = n' := s.1
              subst hn
              obtain ⟨q1, q2⟩ := put_rel (o' := .map (es'.eraseIdxIfInBounds n) clock) (o2 := .map (es.eraseIdx n) clock) hW hl hi rfl (fun w' hw => ⟨_, hw, by
                rw [Array.toList_eraseIdxIfInBounds]
                exact ERel.eraseIdx n he⟩)
              exact ⟨_, φ, .tuple #[], by simp [builtinSem, Builtin.delete_, h0, run_underlying h1, hgo, c1, p, setMap _ hg], VRel.undef φ, q1, q2⟩
          · rename_i hs
            cases h3
            obtain ⟨r', p, s⟩ := seekKey_rel he hs w
            cases r' with
            | some n' => exact s.elim
            | none =>
              obtain ⟨q1, q2⟩ := put_rel (o' := .map es' clock) (o2 := .map es clock) hW hl hi rfl (fun w' hw => ⟨_, hw, he⟩)
              exact ⟨_, φ, .tuple #[], by simp [builtinSem, Builtin.delete_, h0, run_underlying h1, hgo, c1, p, setMap _ hg], VRel.undef φ, q1, q2⟩
          · cases h3
        · cases h
    · cases h
  · cases h
end Go.Proofs.YtcpafphgkbfahaaGreat
