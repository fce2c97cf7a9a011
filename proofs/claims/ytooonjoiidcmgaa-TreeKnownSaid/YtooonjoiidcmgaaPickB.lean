/- Bring; both Gaps and both Fairs; the reference's Pick and Next: each tells what a plain function says. -/
import Derived.Test.YtooonjoiidcmgaaPickN
import Derived.Deep.LoopGhost
import Derived.BigQuiet
import Derived.Deep.QuietTactic
namespace Go.Proofs.Ytooonjoiidcmgaa
open Go.RowKit Go.Shelf

theorem ret_int {k : IntKind} {a b : Int} (h : a = b) : Ending.returned (.int k a) = .returned (.int k b) := by rw [h]

set_option maxHeartbeats 400000 in
theorem bring_c (i n : Int) (w : World) (hn : 1 ≤ n) (hn' : n ≤ 9223372036854775807) :
    Calls Try.prog 23 #[.int .i64 i, .int .i64 n] w fun e w' => e = .returned (.int .i64 (i % n)) ∧ w = w' := by
  go_enter Try.func23, Try.ntmps23
  rcases tmod_cases i n (by omega) with ⟨h1, h2, h3⟩ | ⟨h1, h2, h3⟩
  · have H2 := Lib.hid h2
    clear h2
    go_wp2
    go_ret
    exact ⟨ret_int H2.out, rfl⟩
  · have H2 := Lib.hid h2
    clear h2
    go_wp2
    go_ret
    exact ⟨ret_int H2.out, rfl⟩

/-- the slice value sv holds the numbers xs, in a block below n₀ -/
def Ints (n₀ : Nat) (W : World) (sv : Value) (xs : List Int) : Prop :=
  ∃ a cap, sv = .slice a xs.length cap ∧ ∀ j, j < xs.length → ∃ b off, a = some ⟨b, off, none⟩ ∧ b < n₀ ∧ W.cell? ⟨b, off + j, none⟩ = some (.int .i64 (xs[j]?.getD 0))
theorem Ints.below {n₀ : Nat} {A B : World} (h : Below n₀ A B) {sv : Value} {xs : List Int} : Ints n₀ A sv xs → Ints n₀ B sv xs
  | ⟨a, cap, e, hc⟩ => ⟨a, cap, e, fun j hj => let ⟨b, off, e1, h1, h2⟩ := hc j hj; ⟨b, off, e1, h1, (h.cell (p := ⟨b, off + j, none⟩) h1).trans h2⟩⟩
theorem Ints.mono {n₀ n₁ : Nat} {A : World} (h : n₀ ≤ n₁) {sv : Value} {xs : List Int} : Ints n₀ A sv xs → Ints n₁ A sv xs
  | ⟨a, cap, e, hc⟩ => ⟨a, cap, e, fun j hj => let ⟨b, off, e1, h1, h2⟩ := hc j hj; ⟨b, off, e1, Nat.lt_of_lt_of_le h1 h, h2⟩⟩

/-- how long the last run of others is, and the longest one -/
def gapSt (c : Int) (l : List Int) : Nat × Nat := l.foldl (fun s x => let now := if x = c then 0 else s.1 + 1; (now, max s.2 now)) (0, 0)
theorem gap_snoc (c : Int) (l : List Int) (x : Int) : gapSt c (l ++ [x]) = ((if x = c then 0 else (gapSt c l).1 + 1), max (gapSt c l).2 (if x = c then 0 else (gapSt c l).1 + 1)) := by
  simp only [gapSt, List.foldl_append, List.foldl_cons, List.foldl_nil]
theorem gap_le (c : Int) (l : List Int) : (gapSt c l).1 ≤ l.length ∧ (gapSt c l).2 ≤ l.length := by
  have key : ∀ (r : List Int) (m : Nat), r.length = m → (gapSt c r).1 ≤ m ∧ (gapSt c r).2 ≤ m := by
    intro r m
    induction m generalizing r with
    | zero => intro h; obtain rfl : r = [] := List.eq_nil_of_length_eq_zero h; simp [gapSt]
    | succ m ih =>
      intro h
      have hne : r ≠ [] := by intro e; subst e; simp at h
      obtain ⟨i, x, rfl⟩ : ∃ i x, r = i ++ [x] := ⟨r.dropLast, r.getLast hne, (List.dropLast_concat_getLast hne).symm⟩
      have := ih i (by simp at h; omega)
      rw [gap_snoc]
      by_cases hx : x = c
      · simp [hx]; omega
      · simp [hx]; omega
  exact key l l.length rfl
theorem take_snoc {α : Type} (l : List α) (k : Nat) (d : α) (h : k < l.length) : l.take (k + 1) = l.take k ++ [l[k]?.getD d] := by
  rw [List.take_succ_eq_append_getElem h, List.getElem?_eq_getElem h]; rfl
def gapF (xs : List Int) (c : Int) : Int := ((gapSt c xs).2 : Int)

set_option maxHeartbeats 1000000 in
theorem gap_c (n₀ : Nat) (sv : Value) (xs : List Int) (c : Int) (w : World) (hI : Ints n₀ w sv xs) (hl : xs.length ≤ 140737488351232) :
    Calls Try.prog 19 #[sv, .int .i64 c] w fun e w' => e = .returned (.int .i64 (gapF xs c)) ∧ w = w' := by
  obtain ⟨a, cap, rfl, hc⟩ := hI
  obtain ⟨len, hlen⟩ : ∃ len, len = xs.length := ⟨_, rfl⟩
  have HL : Hid (len = xs.length) := hlen
  rw [← hlen] at hl hc ⊢
  clear hlen
  have hle : ∀ k, k ≤ len → (gapSt c (xs.take k)).1 ≤ k ∧ (gapSt c (xs.take k)).2 ≤ k := fun k hk => by
    have := gap_le c (xs.take k); rw [List.length_take] at this; omega
  go_enter Try.func19, Try.ntmps19
  go_wp2
  go_loop [4, 5, 10] (fun m f i => ∃ k : Nat, k ≤ len ∧ i = .int .i64 k ∧ m = .int .i64 ((gapSt c (xs.take k)).2 : Nat) ∧ f = .int .i64 ((k - (gapSt c (xs.take k)).1 : Nat))) (fun _ _ i => len - (intOf i).toNat)
  case atStart => exact ⟨0, Nat.zero_le _, rfl, rfl, rfl⟩
  case round =>
    obtain ⟨k, hk, rfl, rfl, rfl⟩ := hrel
    by_cases hlt : k < len
    · obtain ⟨b, off, rfl, _, hcell⟩ := hc k hlt
      have h1 := hle k hk
      have hs : gapSt c (xs.take (k + 1)) = ((if xs[k]?.getD 0 = c then 0 else (gapSt c (xs.take k)).1 + 1), max (gapSt c (xs.take k)).2 (if xs[k]?.getD 0 = c then 0 else (gapSt c (xs.take k)).1 + 1)) := by
        rw [take_snoc xs k 0 (by rw [← HL.out]; exact hlt), gap_snoc]
      have HS := Lib.hid hs
      clear hs hc hle
      generalize (gapSt c (xs.take k)).1 = now at *
      generalize (gapSt c (xs.take k)).2 = most at *
      generalize xs[k]?.getD 0 = x at *
      by_cases hx : x = c
      · subst hx
        have hs := HS.out
        rw [if_pos rfl] at hs
        have HS' := Lib.hid hs
        clear HS hs
        go_wp2
        go_round
        case rel => exact ⟨k + 1, by omega, by go_num, by rw [HS'.out]; simp, by rw [HS'.out]; simp⟩
        case measure => simp [intOf]; omega
      · have hs := HS.out
        rw [if_neg hx] at hs
        have HS' := Lib.hid hs
        have hxb : (x == c) = false := by simpa using hx
        clear HS hs
        go_wp2
        go_round
        case rel => exact ⟨k + 1, by omega, by go_num, by rw [HS'.out]; exact congrArg _ (by dsimp only; split <;> omega), by rw [HS'.out]; exact congrArg _ (by dsimp only; omega)⟩
        case measure => simp [intOf]; omega
    · obtain rfl : k = len := by omega
      go_wp2
      go_ret
      exact ⟨ret_int (by unfold gapF; rw [List.take_of_length_le (by rw [HL.out]; exact Nat.le_refl _)]), rfl⟩

set_option maxHeartbeats 1000000 in
theorem rgap_c (n₀ : Nat) (sv : Value) (xs : List Int) (c : Int) (w : World) (hI : Ints n₀ w sv xs) (hl : xs.length ≤ 140737488351232) :
    Calls Try.prog 20 #[sv, .int .i64 c] w fun e w' => e = .returned (.int .i64 (gapF xs c)) ∧ w = w' := by
  obtain ⟨a, cap, rfl, hc⟩ := hI
  obtain ⟨len, hlen⟩ : ∃ len, len = xs.length := ⟨_, rfl⟩
  have HL : Hid (len = xs.length) := hlen
  rw [← hlen] at hl hc ⊢
  clear hlen
  have hle : ∀ k, k ≤ len → (gapSt c (xs.take k)).1 ≤ k ∧ (gapSt c (xs.take k)).2 ≤ k := fun k hk => by
    have := gap_le c (xs.take k); rw [List.length_take] at this; omega
  go_enter Try.func20, Try.ntmps20
  go_wp2
  go_loop [5, 6, 7] (fun m f i => ∃ k : Nat, k ≤ len ∧ i = .int .i64 k ∧ m = .int .i64 ((gapSt c (xs.take k)).2 : Nat) ∧ f = .int .i64 ((gapSt c (xs.take k)).1 : Nat)) (fun _ _ i => len - (intOf i).toNat)
  case atStart => exact ⟨0, Nat.zero_le _, rfl, rfl, rfl⟩
  case round =>
    obtain ⟨k, hk, rfl, rfl, rfl⟩ := hrel
    by_cases hlt : k < len
    · obtain ⟨b, off, rfl, _, hcell⟩ := hc k hlt
      have h1 := hle k hk
      have hs : gapSt c (xs.take (k + 1)) = ((if xs[k]?.getD 0 = c then 0 else (gapSt c (xs.take k)).1 + 1), max (gapSt c (xs.take k)).2 (if xs[k]?.getD 0 = c then 0 else (gapSt c (xs.take k)).1 + 1)) := by
        rw [take_snoc xs k 0 (by rw [← HL.out]; exact hlt), gap_snoc]
      have HS := Lib.hid hs
      clear hs hc hle
      generalize (gapSt c (xs.take k)).1 = now at *
      generalize (gapSt c (xs.take k)).2 = most at *
      generalize xs[k]?.getD 0 = x at *
      by_cases hx : x = c
      · subst hx
        have hs := HS.out
        rw [if_pos rfl] at hs
        have HS' := Lib.hid hs
        clear HS hs
        go_wp2
        go_round
        case rel => exact ⟨k + 1, by omega, by go_num, by rw [HS'.out]; simp, by rw [HS'.out]; simp⟩
        case measure => simp [intOf]; omega
      · have hs := HS.out
        rw [if_neg hx] at hs
        have HS' := Lib.hid hs
        have hxb : (x == c) = false := by simpa using hx
        clear HS hs
        go_wp2
        go_round
        case rel => exact ⟨k + 1, by omega, by go_num, by rw [HS'.out]; exact congrArg _ (by dsimp only; split <;> omega), by rw [HS'.out]; exact congrArg _ (by dsimp only; omega)⟩
        case measure => simp [intOf]; omega
    · obtain rfl : k = len := by omega
      go_wp2
      go_ret
      exact ⟨ret_int (by unfold gapF; rw [List.take_of_length_le (by rw [HL.out]; exact Nat.le_refl _)]), rfl⟩

def fairF (xs : List Int) (cpus window : Int) : Bool :=
  if cpus < 1 ∨ 8 < cpus ∨ window < 1 then false else if (xs.length : Int) < window then true else (List.range cpus.toNat).all (fun c => decide (gapF xs (c : Int) < window))
theorem fair_bad {xs : List Int} {cpus window : Int} (h : cpus < 1 ∨ 8 < cpus ∨ window < 1) : fairF xs cpus window = false := by
  unfold fairF; rw [if_pos h]
theorem fair_short {xs : List Int} {cpus window : Int} (h : ¬ (cpus < 1 ∨ 8 < cpus ∨ window < 1)) (h2 : (xs.length : Int) < window) : fairF xs cpus window = true := by
  unfold fairF; rw [if_neg h, if_pos h2]
theorem fair_no {xs : List Int} {cpus window : Int} (h2 : ¬ (xs.length : Int) < window) (c : Nat) (hc : (c : Int) < cpus) (hg : window ≤ gapF xs (c : Int)) : fairF xs cpus window = false := by
  unfold fairF; rw [if_neg h2]
  split
  · rfl
  · rw [List.all_eq_false]; exact ⟨c, by simp; omega, by simp; omega⟩
theorem fair_yes {xs : List Int} {cpus window : Int} (h : ¬ (cpus < 1 ∨ 8 < cpus ∨ window < 1)) (ha : ∀ c : Nat, (c : Int) < cpus → gapF xs (c : Int) < window) : fairF xs cpus window = true := by
  unfold fairF; rw [if_neg h]
  split
  · rfl
  · rw [List.all_eq_true]; intro c hc; simp at hc; have := ha c (by omega); simp; omega
theorem gapF_bd (xs : List Int) (c : Int) : 0 ≤ gapF xs c ∧ gapF xs c ≤ xs.length := by
  have := gap_le c xs; unfold gapF; omega

set_option maxHeartbeats 1000000 in
theorem fair_c (n₀ : Nat) (sv : Value) (xs : List Int) (cpus window : Int) (w : World) (hI : Ints n₀ w sv xs) (hl : xs.length ≤ 140737488351232) :
    Calls Try.prog 21 #[sv, .int .i64 cpus, .int .i64 window] w fun e w' => e = .returned (.bool (fairF xs cpus window)) ∧ w = w' := by
  have HI := Lib.hid hI
  obtain ⟨a, cap, rfl, _⟩ := hI
  go_enter Try.func21, Try.ntmps21
  by_cases hb : cpus < 1 ∨ 8 < cpus ∨ window < 1
  · have HF := Lib.hid (fair_bad (xs := xs) hb)
    by_cases h1 : cpus < 1
    · clear hb
      go_wp2
      go_ret
      exact ⟨by rw [HF.out]; rfl, rfl⟩
    · by_cases h2 : 8 < cpus
      · clear hb
        go_wp2
        go_ret
        exact ⟨by rw [HF.out]; rfl, rfl⟩
      · have h3 : window < 1 := by omega
        clear hb
        go_wp2
        go_ret
        exact ⟨by rw [HF.out]; rfl, rfl⟩
  · have HB := Lib.hid hb
    have h1 : 1 ≤ cpus := by omega
    have h2 : cpus ≤ 8 := by omega
    have h3 : 1 ≤ window := by omega
    clear hb
    by_cases hs : (xs.length : Int) < window
    · have HF := Lib.hid (fair_short (xs := xs) (cpus := cpus) (by omega) hs)
      go_wp2
      go_ret
      exact ⟨by rw [HF.out]; rfl, rfl⟩
    · have HS := Lib.hid hs
      have hs' : window ≤ (xs.length : Int) := by omega
      clear hs
      go_wp2
      go_loop [23] (fun i => ∃ k : Nat, (k : Int) ≤ cpus ∧ i = .int .i64 k ∧ ∀ c : Nat, c < k → gapF xs (c : Int) < window) (fun i => 8 - (intOf i).toNat)
      case atStart => exact ⟨0, by omega, rfl, fun c h => absurd h (Nat.not_lt_zero _)⟩
      case round =>
        obtain ⟨k, hk, rfl, hall⟩ := hrel
        have HA := Lib.hid hall
        clear hall
        by_cases hlt : (k : Int) < cpus
        · have hg := gapF_bd xs (k : Int)
          by_cases hgw : gapF xs (k : Int) < window
          · go_wp2_with (go_at_call 19; refine (gap_c n₀ _ xs _ _ HI.out hl).mono ?_; rintro e w' ⟨rfl, rfl⟩)
            go_round
            case rel => exact ⟨k + 1, by omega, by go_num, fun c hc => (Nat.lt_or_ge c k).elim (HA.out c) (fun h => by obtain rfl : c = k := (by omega); exact hgw)⟩
            case measure => simp [intOf]; omega
          · have hgw' : window ≤ gapF xs (k : Int) := by omega
            have HF := Lib.hid (fair_no (xs := xs) (window := window) (by omega) k hlt hgw')
            go_wp2_with (go_at_call 19; refine (gap_c n₀ _ xs _ _ HI.out hl).mono ?_; rintro e w' ⟨rfl, rfl⟩)
            go_ret
            exact ⟨by rw [HF.out]; rfl, rfl⟩
        · have HF := Lib.hid (fair_yes (xs := xs) (cpus := cpus) (window := window) (by omega) (fun c hc => HA.out c (by omega)))
          go_wp2
          go_ret
          exact ⟨by rw [HF.out]; rfl, rfl⟩

set_option maxHeartbeats 1000000 in
theorem rfair_c (n₀ : Nat) (sv : Value) (xs : List Int) (cpus window : Int) (w : World) (hI : Ints n₀ w sv xs) (hl : xs.length ≤ 140737488351232) :
    Calls Try.prog 22 #[sv, .int .i64 cpus, .int .i64 window] w fun e w' => e = .returned (.bool (fairF xs cpus window)) ∧ w = w' := by
  have HI := Lib.hid hI
  obtain ⟨a, cap, rfl, _⟩ := hI
  go_enter Try.func22, Try.ntmps22
  by_cases hb : cpus < 1 ∨ 8 < cpus ∨ window < 1
  · have HF := Lib.hid (fair_bad (xs := xs) hb)
    by_cases h1 : cpus < 1
    · clear hb
      go_wp2
      go_ret
      exact ⟨by rw [HF.out]; rfl, rfl⟩
    · by_cases h2 : 8 < cpus
      · clear hb
        go_wp2
        go_ret
        exact ⟨by rw [HF.out]; rfl, rfl⟩
      · have h3 : window < 1 := by omega
        clear hb
        go_wp2
        go_ret
        exact ⟨by rw [HF.out]; rfl, rfl⟩
  · have HB := Lib.hid hb
    have h1 : 1 ≤ cpus := by omega
    have h2 : cpus ≤ 8 := by omega
    have h3 : 1 ≤ window := by omega
    clear hb
    go_wp2
    go_loop [7] (fun i => ∃ k : Nat, (k : Int) ≤ cpus ∧ i = .int .i64 k ∧ ∀ c : Nat, c < k → gapF xs (c : Int) < window) (fun i => 8 - (intOf i).toNat)
    case atStart => exact ⟨0, by omega, rfl, fun c h => absurd h (Nat.not_lt_zero _)⟩
    case round =>
      obtain ⟨k, hk, rfl, hall⟩ := hrel
      have HA := Lib.hid hall
      clear hall
      by_cases hlt : (k : Int) < cpus
      · by_cases hs : (xs.length : Int) < window
        · have HF := Lib.hid (fair_short (xs := xs) (cpus := cpus) (by omega) hs)
          go_wp2
          go_ret
          exact ⟨by rw [HF.out]; rfl, rfl⟩
        · have HS := Lib.hid hs
          have hs' : window ≤ (xs.length : Int) := by omega
          clear hs
          have hg := gapF_bd xs (k : Int)
          by_cases hgw : gapF xs (k : Int) < window
          · go_wp2_with (go_at_call 20; refine (rgap_c n₀ _ xs _ _ HI.out hl).mono ?_; rintro e w' ⟨rfl, rfl⟩)
            go_round
            case rel => exact ⟨k + 1, by omega, by go_num, fun c hc => (Nat.lt_or_ge c k).elim (HA.out c) (fun h => by obtain rfl : c = k := (by omega); exact hgw)⟩
            case measure => simp [intOf]; omega
          · have hgw' : window ≤ gapF xs (k : Int) := by omega
            have HF := Lib.hid (fair_no (xs := xs) (window := window) (by omega) k hlt hgw')
            go_wp2_with (go_at_call 20; refine (rgap_c n₀ _ xs _ _ HI.out hl).mono ?_; rintro e w' ⟨rfl, rfl⟩)
            go_ret
            exact ⟨by rw [HF.out]; rfl, rfl⟩
      · have HF := Lib.hid (fair_yes (xs := xs) (cpus := cpus) (window := window) (by omega) (fun c hc => HA.out c (by omega)))
        go_wp2
        go_ret
        exact ⟨by rw [HF.out]; rfl, rfl⟩
end Go.Proofs.Ytooonjoiidcmgaa
