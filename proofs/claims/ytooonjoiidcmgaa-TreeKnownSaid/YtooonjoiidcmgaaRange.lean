/- A range over an iterator that moves cells of its own between two rounds ('Mv'): the law for the caller. Conditions: the caller's invariant abides the iterator's moves and the loop's book-keeping. -/
import Derived.Test.YtooonjoiidcmgaaIter
import Derived.RangeFuncNested
namespace Go.Proofs.Ytooonjoiidcmgaa
open Go.RowKit Go.Shelf
variable {F : Fence} {n : Nat} {P : Program}

/-- The iterator's word: whatever the caller keeps between two rounds (J), so it abides the iterator's own moves (Mv); a round that goes on keeps Kp. -/
def SeqMoves {α : Type} (F : Fence) (n : Nat) (P : Program) (g : Nat) (lb : Array Value) (encs : α → Array Value) (Mv Kp : World → World → Prop) (S Sp : List α → Prop) (N : Nat) (w : World) : Prop :=
  ∀ (l : Nat) (J Jx : List α → World → Prop) (W : World), Below w.heap.size w W → (∀ s A B, J s A → Mv A B → J s B) →
    (∀ pre x W1, J pre W1 → pre.length < N → YieldAt F (n - 1) P l (encs x) W1 fun e W' =>
      (e = .returned (.bool true) ∧ J (pre ++ [x]) W' ∧ Kp W1 W') ∨ (e = .returned (.bool false) ∧ Jx (pre ++ [x]) W')) →
    J [] W →
    CallsIn F n P g (#[.func (.yield l) #[] #[]] ++ lb) W fun e W' => (∃ v, e = .returned v) ∧ ((∃ xs, S xs ∧ J xs W') ∨ (∃ pre, Sp pre ∧ Jx pre W'))

theorem range_moves {α : Type} {g : Operand} {ps : Array Tmp} {assign body : Code} {Q : Exit → Act → World → Prop} {a : Act} {w : World}
    (hro : F.round = none) (h1 : 1 ≤ n) {gf : Nat} {lb : Array Value} (hg : a.eval g = .func (.func gf) #[] lb) (hFg : F.fn gf) (eg : ∀ args w, (callFunc gf args).run P w = .ok (.enter gf args) w)
    {encs : α → Array Value} {Mv Kp : World → World → Prop} {S Sp : List α → Prop} {N : Nat} (hseq : SeqMoves F (n - 1) P gf lb encs Mv Kp S Sp N w)
    (hMv : ∀ (A B : World) (k : Nat) (o : Obj), Mv A B → w.heap.size ≤ k → A.heap[k]? = some o → o.isCells = false → B.heap[k]? = some o)
    (hKt : ∀ {A B C : World}, Kp A B → Kp B C → Kp A C) (hKb : ∀ (W : World) (l : Nat) (o o' : Obj), w.heap.size ≤ l → W.heap[l]? = some o → o.isCells = false → o.isWalk = false → Kp W (W.putObj l o')) (hps : ∀ x, (encs x).size = ps.size)
    (I : List α → World → Prop) (Ix : Code → List α → World → Prop) (hI : OwnFrom w.heap.size I) (hIx : ∀ c, OwnFrom w.heap.size (Ix c)) (hIm : ∀ s A B, I s A → Mv A B → I s B) (h0 : I [] w) (a₁ : α → Act)
    (hassign : ∀ (l : Nat) (x : α) (W : World) (K : Act → World → Prop), K (a₁ x) W →
      assign.wpIn (F.inRound l) (n - 1 - 1) P (Exit.then K (fun _ _ _ => False)) { tmps := (ps.zip (encs x)).foldl (fun t (p, v) => t.setIfInBounds p v) a.tmps, defers := [] } W)
    (hbody : ∀ (l : Nat) (pre : List α) (x : α) (W : World), I pre W → pre.length < N → body.wpIn (F.inRound l) (n - 1 - 1) P (ownPostG w.heap.size Kp I Ix (pre ++ [x]) W) (a₁ x) W)
    (hdone : ∀ (D : Nat) (xs : List α) (W : World), w.heap.size ≤ D → S xs → I xs W → W.heap[D]? = some (.deferred (some [])) → Q .normal { a with defers := { target := .collected D, args := #[] } :: a.defers } W)
    (hstop : ∀ (D : Nat) (c : Code) (pre : List α) (W : World), w.heap.size ≤ D → Sp pre → Ix c pre W → W.heap[D]? = some (.deferred (some [])) → c.wpIn F n P Q { a with defers := { target := .collected D, args := #[] } :: a.defers } W) :
    (Code.rangeFunc g ps assign body).wpIn F n P Q a w := by
  refine wpIn_rangeFunc (fun fn hfn => ?_)
  rw [hro]
  -- the two blocks that the loop lays: D for the rounds' deferred calls, R the loop's record
  let D := w.heap.size
  let R := w.heap.size + 1
  let rec_ : LoopState → Option Code → Loop := fun st pe => { state := st, pending := pe, fn, tmps := a.tmps, params := ps, assign, body, defers := D }
  let W1 := (w.alloc (.deferred (some []))).alloc (.loop (rec_ .ready none))
  have eD : W1.heap[D]? = some (.deferred (some [])) := (Below.heap_alloc _ _ _ (by simp [D])).trans (World.alloc_heap_new w _)
  have eR : W1.heap[R]? = some (.loop (rec_ .ready none)) := by
    have := World.alloc_heap_new (w.alloc (.deferred (some []))) (.loop (rec_ .ready none)); rwa [World.size_alloc] at this
  have keep : ∀ {A B : World} (k : Nat) (o : Obj), Mv A B → D ≤ k → A.heap[k]? = some o → o.isCells = false → B.heap[k]? = some o := fun k o hm hk ho hc => hMv _ _ k o hm hk ho hc
  refine ⟨R, [{ target := .collected D, args := #[] }], W1, { target := .fn (.func gf) lb, args := #[.func (.yield R) #[] #[]] }, W1, gf, #[.func (.yield R) #[] #[]] ++ lb, W1, run_enterLoop_outer _ _ _ _ _, ?_, ?_, ?_, fun _ => h1, ?_⟩
  · simp only [resolve, hg]
    simp [go_sem]
  · intro f' hf'; simp [Target.leads] at hf'; subst hf'; exact hFg
  · simp [invoke, go_sem, eg]
  refine (hseq R
    (fun pre W => I pre W ∧ W.heap[R]? = some (.loop (rec_ .ready none)) ∧ W.heap[D]? = some (.deferred (some [])))
    (fun pre W => ∃ c, Ix c pre W ∧ W.heap[R]? = some (.loop (rec_ .done (some c))) ∧ W.heap[D]? = some (.deferred (some [])))
    W1 (((Below.refl _ w).alloc (Nat.le_refl _) _).alloc (by simp) _)
    (fun s A B hs hm => ⟨hIm s A B hs.1 hm, keep R _ hm (by omega) hs.2.1 rfl, keep D _ hm (Nat.le_refl _) hs.2.2 rfl⟩)
    ?_ ⟨hI.alloc _ (hI.alloc _ h0), eR, eD⟩).mono ?_
  · -- one round
    rintro pre x W ⟨hi, hl, hk⟩ hlen
    have hlt : R < W.heap.size := (Array.getElem?_eq_some_iff.1 hl).1
    have hDR : D ≤ R := by omega
    refine ⟨fn, _, assign, body, run_yield (P := P) (args := encs x) hl (hps x), roundIn_of_wpIn hfn (hassign _ x W _ ⟨_, run_beginRound hl rfl, ?_⟩)⟩
    obtain ⟨W2, hW2⟩ : ∃ W2, W.putObj R (.loop (rec_ .busy none)) = W2 := ⟨_, rfl⟩
    have hl2 : W2.heap[R]? = some (.loop (rec_ .busy none)) := by rw [← hW2]; exact World.putObj_heap_same hlt
    have hk2 : W2.heap[D]? = some (.deferred (some [])) := by rw [← hW2]; exact (World.putObj_heap_other (by omega)).trans hk
    have hw2 : Kp W W2 := by rw [← hW2]; exact hKb _ _ _ _ hDR hl rfl rfl
    have hi2 : I pre W2 := by rw [← hW2]; exact hI.putObj _ hi hDR hl rfl
    change Code.wpIn _ _ _ _ _ _ (W.putObj R (.loop (rec_ .busy none)))
    rw [hW2]
    refine wpIn_mono (hbody _ pre x W2 hi2 hlen) ?_
    -- what the round's end makes of the record
    have fin : ∀ (jump : Option Code) (W3 : World), KeepsFrom D W2 W3 →
        (Instr.endRound R jump).run P W3 = .ok (.bool jump.isNone) (W3.putObj R (.loop (rec_ (if jump.isNone then .ready else .done) jump))) ∧ W3.heap[R]? = some (.loop (rec_ .busy none)) ∧
        (W3.putObj R (.loop (rec_ (if jump.isNone then .ready else .done) jump))).heap[R]? = some (.loop (rec_ (if jump.isNone then .ready else .done) jump)) ∧
        (W3.putObj R (.loop (rec_ (if jump.isNone then .ready else .done) jump))).heap[D]? = some (.deferred (some [])) := fun jump W3 hk3 => by
      have hl3 := hk3.same _ _ hDR hl2 rfl
      exact ⟨run_endRound (P := P) jump hl3, hl3, World.putObj_heap_same (Array.getElem?_eq_some_iff.1 hl3).1, (World.putObj_heap_other (by omega)).trans (hk3.same _ _ (Nat.le_refl _) hk2 rfl)⟩
    have left : ∀ (c : Code) (W3 : World), KeepsFrom D W2 W3 → Ix c (pre ++ [x]) W3 →
        ∃ c', Ix c' (pre ++ [x]) (W3.putObj R (.loop (rec_ .done (some c)))) ∧ (W3.putObj R (.loop (rec_ .done (some c)))).heap[R]? = some (.loop (rec_ .done (some c'))) ∧ (W3.putObj R (.loop (rec_ .done (some c)))).heap[D]? = some (.deferred (some [])) := fun c W3 hk3 hi3 => by
      obtain ⟨_, hl3, hl4, hk4⟩ := fin (some c) W3 hk3
      exact ⟨c, (hIx c).putObj _ hi3 hDR hl3 rfl, hl4, hk4⟩
    rintro e a3 W3 hp
    cases e with
    | normal =>
      obtain ⟨hk3, hkp3, hi3⟩ := hp
      obtain ⟨hr, hl3, hl4, hk4⟩ := fin none W3 hk3
      exact ⟨_, _, hr, .inl ⟨rfl, ⟨hI.putObj _ hi3 hDR hl3 rfl, hl4, hk4⟩, hKt (hKt hw2 hkp3) (hKb _ _ _ _ hDR hl3 rfl rfl)⟩⟩
    | ret => exact ⟨_, _, (fin (some .ret) W3 hp.1).1, .inr ⟨rfl, left _ _ hp.1 hp.2⟩⟩
    | exit id => exact ⟨_, _, (fin (some (.exit id)) W3 hp.1).1, .inr ⟨rfl, left _ _ hp.1 hp.2⟩⟩
    | goto t => exact ⟨_, _, (fin (some (.goto t)) W3 hp.1).1, .inr ⟨rfl, left _ _ hp.1 hp.2⟩⟩
    | panic ch => exact hp.elim
    | outgrown => exact hp.elim
  · -- behind the iterator
    have hDR : D ≤ R := by omega
    rintro e W2 ⟨⟨v, rfl⟩, (⟨xs, hS, hi, hl, hk⟩ | ⟨pre, hSp, c, hi, hl, hk⟩)⟩
    · exact ⟨none, _, run_endLoop (P := P) hl (by simp [rec_]), hdone _ xs _ (Nat.le_refl _) hS (hI.putObj _ hi hDR hl rfl) ((World.putObj_heap_other (by omega)).trans hk)⟩
    · exact ⟨some c, _, run_endLoop (P := P) hl (by simp [rec_]), hstop _ c pre _ (Nat.le_refl _) hSp ((hIx c).putObj _ hi hDR hl rfl) ((World.putObj_heap_other (by omega)).trans hk)⟩
end Go.Proofs.Ytooonjoiidcmgaa
