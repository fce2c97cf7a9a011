/- Next, the program's, tells what the plain function nextF says, of every list of bools and every number. -/
import Derived.Test.YtooonjoiidcmgaaPickA
import Derived.TacticsIn
import Derived.WalkMore
import Derived.RangeFuncNested
import Derived.BigRegionIn
namespace Go.Proofs.Ytooonjoiidcmgaa
open Go.RowKit Go.Shelf

def nextF (bs : List Bool) (last : Int) : Int × Bool :=
  match (List.range bs.length).find? (fun j : Nat => bs[j]?.getD false && decide (last < (j : Int))) with
  | some c => ((c : Int), true)
  | none => match (List.range bs.length).find? (fun j : Nat => bs[j]?.getD false) with
    | some c => ((c : Int), true)
    | none => (0, false)

/-- what stands in 'first' when pre has come -/
def firstOf (pre : List Nat) : Int := match pre with | [] => -1 | c :: _ => (c : Int)
theorem firstOf_snoc (pre : List Nat) (x : Nat) : firstOf (pre ++ [x]) = if firstOf pre < 0 then (x : Int) else firstOf pre := by
  cases pre with
  | nil => rfl
  | cons c r => show (c : Int) = if (c : Int) < 0 then (x : Int) else (c : Int); rw [if_neg (by omega)]

theorem next_all (bs : List Bool) (last : Int) (h : ∀ c ∈ runsTo bs bs.length, (c : Int) ≤ last) :
    nextF bs last = (max (firstOf (runsTo bs bs.length)) 0, decide (0 ≤ firstOf (runsTo bs bs.length))) := by
  unfold nextF
  have h1 : (List.range bs.length).find? (fun j : Nat => bs[j]?.getD false && decide (last < (j : Int))) = none := by
    rw [List.find?_eq_none]
    intro j hj
    by_cases hb : bs[j]?.getD false = true
    · have := h j (by simp only [runsTo, List.mem_filter]; exact ⟨hj, hb⟩)
      simp [hb]; omega
    · simp [hb]
  rw [h1]
  have h2 : (List.range bs.length).find? (fun j : Nat => bs[j]?.getD false) = (runsTo bs bs.length).head? := by
    unfold runsTo; rw [List.head?_filter]
  simp only [h2]
  cases runsTo bs bs.length with
  | nil => rfl
  | cons c r => simp [firstOf]

theorem next_some (bs : List Bool) (last : Int) (k : Nat) (hk : k < bs.length) (hb : bs[k]?.getD false = true) (hl : last < (k : Int)) (h : ∀ c ∈ runsTo bs k, (c : Int) ≤ last) :
    nextF bs last = ((k : Int), true) := by
  unfold nextF
  have h1 : (List.range bs.length).find? (fun j : Nat => bs[j]?.getD false && decide (last < (j : Int))) = some k := by
    rw [List.find?_range_eq_some]
    refine ⟨by simp [hb, hl], by simpa using hk, fun j hj => ?_⟩
    by_cases hbj : bs[j]?.getD false = true
    · have := h j (by simp only [runsTo, List.mem_filter, List.mem_range]; exact ⟨hj, hbj⟩)
      simp [hbj]; omega
    · simp [hbj]
  rw [h1]

attribute [local go_sem] Oper.semAt_some

/-- the function's end: both results are read out of their boxes -/
theorem next_end {bs : List Bool} {last x : Int} {b : Bool} {D : Nat} {w W : World} (hD : w.heap.size ≤ D) (hK : W.heap[D]? = some (.deferred (some [])))
    (c1 : W.cell? ⟨w.heap.size + 1, 0, none⟩ = some (.int .i64 x)) (c2 : W.cell? ⟨w.heap.size + 1 + 1, 0, none⟩ = some (.bool b)) (hR : nextF bs last = (x, b)) (hB : Below w.heap.size w W)
    (t0 t1 t2 t3 t6 t7 t8 t9 t10 t11 t12 t13 t14 t15 t16 t17 t18 t19 t20 t21 t22 t23 : Value) :
    bodyPostM Fence.wide 10 Try.prog Try.f16 (fun e W' => e = .returned (.tuple #[.int .i64 (nextF bs last).1, .bool (nextF bs last).2]) ∧ Below w.heap.size w W') Exit.ret
      { tmps := #[t0, t1, t2, t3, .pointer (some ⟨w.heap.size + 1, 0, none⟩), .pointer (some ⟨w.heap.size + 1 + 1, 0, none⟩), t6, t7, t8, t9, t10, t11, t12, t13, t14, t15, t16, t17, t18, t19, t20, t21, t22, t23], defers := [{ target := .collected D, args := #[] }] } W := by
  refine ⟨by simp, .inl ⟨_, _, rfl, run_takeDeferred hK, ?_⟩⟩
  have d1 := cell_kept c1 (grownBy_putObj' W D (.deferred none)) (fun r e => by cases e; exact ⟨_, hK, rfl⟩)
  have d2 := cell_kept c2 (grownBy_putObj' W D (.deferred none)) (fun r e => by cases e; exact ⟨_, hK, rfl⟩)
  refine ⟨.tuple #[.int .i64 x, .bool b], ?_, by rw [hR], hB.trans (belowK_b (w := w) (Nat.le_refl _) W D _ _ hD hK rfl rfl)⟩
  simp [results, Try.f16, go_sem, d1, d2]

set_option maxRecDepth 100000 in
set_option maxHeartbeats 2000000 in
theorem next_c (a : Option Addr) (len cap : Nat) (bs : List Bool) (last : Int) (hreach : bs.length ≤ 140737488351232) (w : World) (hI : Bools w.heap.size w (.slice a len cap) bs) :
    Calls Try.prog 16 #[.slice a len cap, .int .i64 last] w fun e W' => e = .returned (.tuple #[.int .i64 (nextF bs last).1, .bool (nextF bs last).2]) ∧ Below w.heap.size w W' := by
  refine (callsIn_wide (n := 10)).1 (callsIn_of_wp_marks Try.func16 rfl trivial ?_ rfl)
  simp only [Try.ntmps16, List.size_toArray, List.length_cons, List.length_nil, Nat.reduceAdd, Nat.reduceSub, Array.replicate_succ, Array.replicate_zero, List.push_toArray, List.append_toArray, List.nil_append, List.cons_append]
  refine (wpIn_wide (n := 10)).2 ?_
  go_wp2_with fail
  go_step3
  go_wp2_with fail
  go_step3
  go_wp2_with (go_at_call 41; refine (callsIn_wide.1 (running_in Fence.wide 10 trivial rfl _ _ _ _)).mono ?_; rintro e w' ⟨rfl, rfl⟩)
  refine (wpIn_wide (n := 10)).1 ?_
  have bL := Boxed.new w 3 (.int .i64 last)
  have bA := Boxed.new (w.alloc (.cells #[.int .i64 last] 3)) 3 (.int .i64 0)
  have bB := Boxed.new ((w.alloc (.cells #[.int .i64 last] 3)).alloc (.cells #[.int .i64 0] 3)) 4 (.bool false)
  have bF := Boxed.new (((w.alloc (.cells #[.int .i64 last] 3)).alloc (.cells #[.int .i64 0] 3)).alloc (.cells #[.bool false] 4)) 3 (.int .i64 (-1))
  have bN := Boxed.new ((((w.alloc (.cells #[.int .i64 last] 3)).alloc (.cells #[.int .i64 0] 3)).alloc (.cells #[.bool false] 4)).alloc (.cells #[.int .i64 (-1)] 3)) 22 (.slice a len cap)
  simp only [World.size_alloc] at bA bB bF bN
  have hB0 : Below w.heap.size w (((((w.alloc (.cells #[.int .i64 last] 3)).alloc (.cells #[.int .i64 0] 3)).alloc (.cells #[.bool false] 4)).alloc (.cells #[.int .i64 (-1)] 3)).alloc (.cells #[.slice a len cap] 22)) :=
    (((((Below.refl _ w).alloc (Nat.le_refl _) _).alloc (by simp) _).alloc (by simp; omega) _).alloc (by simp; omega) _).alloc (by simp; omega) _
  have hL' := (((bL.alloc (.cells #[.int .i64 0] 3)).alloc (.cells #[.bool false] 4)).alloc (.cells #[.int .i64 (-1)] 3)).alloc (.cells #[.slice a len cap] 22)
  have hA' := ((bA.alloc (.cells #[.bool false] 4)).alloc (.cells #[.int .i64 (-1)] 3)).alloc (.cells #[.slice a len cap] 22)
  have hBB' := (bB.alloc (.cells #[.int .i64 (-1)] 3)).alloc (.cells #[.slice a len cap] 22)
  have hF' := bF.alloc (.cells #[.slice a len cap] 22)
  refine wpIn_rangeFunc_ownG (F := Fence.wide) (n := 10) rfl (by omega) (gf := 56) (lb := #[.pointer (some ⟨w.heap.size + 1 + 1 + 1 + 1, 0, none⟩)]) rfl trivial (enters_of Try.func56 (by kernel_rfl) rfl)
    (running_stops Fence.wide (10 - 1) trivial rfl (by omega) (w.heap.size + 1 + 1 + 1 + 1) w.heap.size _ bs hreach _ (by simp) (by simp; omega) bN.cell (hI.below hB0)) belowK_t (belowK_b (by simp; omega)) (Below.refl _ _) (by intro _; rfl)
    (fun (pre : List Nat) W => ((((Boxed W w.heap.size 3 (.int .i64 last) ∧ Boxed W (w.heap.size + 1) 3 (.int .i64 0)) ∧ Boxed W (w.heap.size + 1 + 1) 4 (.bool false)) ∧ Boxed W (w.heap.size + 1 + 1 + 1) 3 (.int .i64 (firstOf pre))) ∧ (∀ c ∈ pre, (c : Int) ≤ last)) ∧ Below w.heap.size w W)
    (fun c (pre : List Nat) W => (c = .ret ∧ ∃ (ini : List Nat) (x : Nat), pre = ini ++ [x] ∧ (∀ c ∈ ini, (c : Int) ≤ last) ∧ last < (x : Int) ∧ W.cell? ⟨w.heap.size + 1, 0, none⟩ = some (.int .i64 (x : Int)) ∧ W.cell? ⟨w.heap.size + 1 + 1, 0, none⟩ = some (.bool true)) ∧ Below w.heap.size w W)
    (OwnFrom.and (OwnFrom.and (OwnFrom.and (OwnFrom.and (OwnFrom.and (Own.from (boxed_own _ _ fun _ => _) _) (Own.from (boxed_own _ _ fun _ => _) _)) (Own.from (boxed_own _ _ fun _ => _) _)) (Own.from (boxed_own _ _ fun pre => .int .i64 (firstOf pre)) _)) (fun _ _ _ _ h _ _ => h)) (ownFrom_below (Nat.le_refl _) (by simp; omega)))
    (fun c => OwnFrom.and (Own.from (fun s A B row hs hg hr => by obtain ⟨hc, ini, x, e1, e2, e3, e4, e5⟩ := hs; exact ⟨hc, ini, x, e1, e2, e3, cell_kept e4 hg hr, cell_kept e5 hg hr⟩) _) (ownFrom_below (Nat.le_refl _) (by simp; omega)))
    ⟨⟨⟨⟨⟨hL', hA'⟩, hBB'⟩, hF'⟩, by simp⟩, hB0⟩
    (fun x : Nat => { tmps := #[.slice a len cap, .int .i64 last, undef, .pointer (some ⟨w.heap.size, 0, none⟩), .pointer (some ⟨w.heap.size + 1, 0, none⟩), .pointer (some ⟨w.heap.size + 1 + 1, 0, none⟩), .pointer (some ⟨w.heap.size + 1 + 1 + 1, 0, none⟩), .int .i64 (x : Int), .slice a len cap, .func (.func 56) #[] #[.pointer (some ⟨w.heap.size + 1 + 1 + 1 + 1, 0, none⟩)], .int .i64 (x : Int), undef, undef, undef, undef, undef, undef, undef, undef, undef, undef, undef, undef, undef], defers := [] }) ?assign ?body ?done ?stop
  case assign =>
    intro l x W K hK
    gi_wp2
    exact hK
  case body =>
    rintro l pre x W ⟨⟨⟨⟨⟨bL, bA⟩, bB⟩, bF⟩, hp⟩, hB⟩ _
    have c1 := bL.cell
    have c2 := bA.cell
    have c3 := bB.cell
    have c4 := bF.cell
    have f2 := bA.frozen
    have f3 := bB.frozen
    have f4 := bF.frozen
    have HP := Lib.hid hp
    clear hp hL' hA' hBB' hF' hB0 hI
    gi_wp2
    · have hx : last < (x : Int) := by assumption
      refine ⟨((KeepsOthers.setCell _ _ _).trans (KeepsOthers.setCell _ _ _)).from _, ⟨rfl, pre, x, rfl, HP.out, hx, ?_, ?_⟩, (hB.setCell (p := ⟨w.heap.size + 1, 0, none⟩) (by simp) _).setCell (p := ⟨w.heap.size + 1 + 1, 0, none⟩) (by simp; omega) _⟩
      · exact ((bA.set _).other (by omega) _).cell
      · exact ((bB.other (by omega) _).set _).cell
    · have hx : (x : Int) ≤ last := by assumption
      have hf : firstOf pre < 0 := by assumption
      refine ⟨(KeepsOthers.setCell _ _ _).from _, (Below.refl _ _).setCell (p := ⟨w.heap.size + 1 + 1 + 1, 0, none⟩) (by simp; omega) _, ⟨⟨⟨⟨bL.other (by omega) _, bA.other (by omega) _⟩, bB.other (by omega) _⟩, ?_⟩, ?_⟩, hB.setCell (p := ⟨w.heap.size + 1 + 1 + 1, 0, none⟩) (by simp; omega) _⟩
      · rw [firstOf_snoc, if_pos hf]; exact bF.set _
      · intro c hc
        rcases List.mem_append.1 hc with h | h
        · exact HP.out c h
        · simp at h; subst h; exact hx
    · have hx : (x : Int) ≤ last := by assumption
      have hf : 0 ≤ firstOf pre := by assumption
      refine ⟨KeepsFrom.refl _ _, Below.refl _ _, ⟨⟨⟨⟨bL, bA⟩, bB⟩, ?_⟩, ?_⟩, hB⟩
      · rw [firstOf_snoc, if_neg (by omega)]; exact bF
      · intro c hc
        rcases List.mem_append.1 hc with h | h
        · exact HP.out c h
        · simp at h; subst h; exact hx
  case done =>
    rintro D ys W hD rfl ⟨⟨⟨⟨⟨bL, bA⟩, bB⟩, bF⟩, hp⟩, hB⟩ hK
    have c2 := bA.cell
    have c3 := bB.cell
    have c4 := bF.cell
    have f2 := bA.frozen
    have f3 := bB.frozen
    have HR := Lib.hid (next_all bs last hp)
    have hD' : w.heap.size ≤ D := by simp at hD; omega
    clear hp hL' hA' hBB' hF' hB0 hI hD
    go_wp2
    go_region
    all_goals go_wp2
    · exact next_end (W := ((W.setCell ⟨w.heap.size + 1, 0, none⟩ (.int .i64 0)).setCell ⟨w.heap.size + 1 + 1, 0, none⟩ (.bool (decide (0 ≤ firstOf (runsTo bs bs.length))))).drew) (x := 0) (b := decide (0 ≤ firstOf (runsTo bs bs.length))) hD' (((KeepsOthers.setCell W ⟨w.heap.size + 1, 0, none⟩ (.int .i64 0)).trans (KeepsOthers.setCell _ ⟨w.heap.size + 1 + 1, 0, none⟩ (.bool (decide (0 ≤ firstOf (runsTo bs bs.length)))))).same D _ hK rfl) ((bA.set _).other (by omega) _).cell ((bB.other (by omega) _).set _).cell
        (by have hf : firstOf (runsTo bs bs.length) < 0 := by assumption
            rw [HR.out, show max (firstOf (runsTo bs bs.length)) 0 = 0 by omega]) (((hB.setCell (p := ⟨w.heap.size + 1, 0, none⟩) (by simp) _).setCell (p := ⟨w.heap.size + 1 + 1, 0, none⟩) (by simp; omega) _).drew) _ _ _ _ _ _ _ _ _ _ _ _ _ _ _ _ _ _ _ _ _ _
    · have hf : 0 ≤ firstOf (runsTo bs bs.length) := by assumption
      exact next_end (W := ((W.setCell ⟨w.heap.size + 1, 0, none⟩ (.int .i64 (firstOf (runsTo bs bs.length)))).setCell ⟨w.heap.size + 1 + 1, 0, none⟩ (.bool true)).drew) (x := firstOf (runsTo bs bs.length)) (b := true) hD' (((KeepsOthers.setCell W ⟨w.heap.size + 1, 0, none⟩ (.int .i64 (firstOf (runsTo bs bs.length)))).trans (KeepsOthers.setCell _ ⟨w.heap.size + 1 + 1, 0, none⟩ (.bool true))).same D _ hK rfl) ((bA.set _).other (by omega) _).cell ((bB.other (by omega) _).set _).cell
        (by rw [HR.out, show max (firstOf (runsTo bs bs.length)) 0 = firstOf (runsTo bs bs.length) by omega, decide_eq_true hf]) (((hB.setCell (p := ⟨w.heap.size + 1, 0, none⟩) (by simp) _).setCell (p := ⟨w.heap.size + 1 + 1, 0, none⟩) (by simp; omega) _).drew) _ _ _ _ _ _ _ _ _ _ _ _ _ _ _ _ _ _ _ _ _ _
  case stop =>
    rintro D c pre W hD ⟨k, hk, hbk, rfl⟩ ⟨⟨rfl, ini, x, e1, e2, e3, hc1, hc2⟩, hB⟩ hK
    rw [runsTo_yes hbk] at e1
    obtain ⟨rfl, e5⟩ := List.append_inj' e1 rfl
    obtain rfl : k = x := by simpa using e5
    have HR := Lib.hid (next_some bs last k hk hbk e3 e2)
    have hD' : w.heap.size ≤ D := by simp at hD; omega
    clear e1 e2 hL' hA' hBB' hF' hB0 hI hD
    gi_wp2
    exact next_end (x := (k : Int)) (b := true) hD' hK hc1 hc2 HR.out hB _ _ _ _ _ _ _ _ _ _ _ _ _ _ _ _ _ _ _ _ _ _
end Go.Proofs.Ytooonjoiidcmgaa
