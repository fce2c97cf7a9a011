/- Snaps and histories as plain lists: what the program and the reference say of a path, of the first call, of the least beginning, and that both say the same. Conditions: none. -/
import Derived.Test.YtcpafphgkbfahaaGreatBase
namespace Go.Proofs.YtcpafphgkbfahaaGreat

/-- a handle -/
structure Hd where
  cache : Int
  slab : Int
  obj : Int
  group : Int
  out : Bool
/-- a call that has ended -/
structure Dd where
  cpu : Int
  op : Int
  frm : Int
  to : Int
  e : Int
  hs : List Int
/-- a cache -/
structure Ca where
  size : Int
  align : Int
  flags : Int
  refs : Int
  live : Bool
  waits : Int
  pages : List Int
  l0 : Int
  l1 : Int
  l2 : Int
  l3 : Int
  order : Int
  objects : Int
  l6 : Int
/-- a snap -/
structure Sn where
  now : Int
  depths : List Int
  paths : List (List Int)
  used : List Int
  most : List Int
  owned : List Int
  held : List Int
  flies : List Int
  tags : List Int
  caches : List Ca
  handles : List Hd
  dids : List Dd
def Sn.nd (s : Sn) : Nat := s.depths.length
def Sn.nu (s : Sn) : Nat := s.used.length
def Sn.nm (s : Sn) : Nat := s.most.length
def Sn.no (s : Sn) : Nat := s.owned.length
def Sn.nh (s : Sn) : Nat := s.held.length
def Sn.nf (s : Sn) : Nat := s.flies.length
def Sn.nc (s : Sn) : Nat := s.caches.length
/-- a span -/
structure Sp where
  kind : Int
  cache : Int
  slab : Int
  obj : Int
  frm : Int
  to : Int

def gi (l : List Int) (i : Nat) : Int := l[i]?.getD 0
def hd0 : Hd := ⟨0, 0, 0, 0, false⟩
def dd0 : Dd := ⟨0, 0, 0, 0, 0, []⟩
def ca0 : Ca := ⟨0, 0, 0, 0, false, 0, [], 0, 0, 0, 0, 0, 0, 0⟩
def gc (l : List Ca) (i : Nat) : Ca := l[i]?.getD ca0
def gh (l : List Hd) (i : Nat) : Hd := l[i]?.getD hd0
def gd (l : List Dd) (i : Nat) : Dd := l[i]?.getD dd0
def gp (l : List (List Int)) (i : Nat) : List Int := l[i]?.getD []

def PathR (l : List Int) (g : Int) (n : Nat) : Prop :=
  (∀ i, i < l.length → 1 ≤ gi l i ∧ gi l i ≤ n ∧ (0 < i → gi l (i - 1) < gi l i)) ∧ 0 < l.length ∧ gi l (l.length - 1) = g
def PathJ (l : List Int) (g : Int) : Prop :=
  0 < l.length ∧ 1 ≤ gi l 0 ∧ gi l (l.length - 1) = g ∧ (∀ i, i + 1 < l.length → gi l i ≤ gi l (i + 1)) ∧ (∀ i, i + 1 < l.length → gi l i ≠ gi l (i + 1))
theorem path_same (l : List Int) (g n : Nat) (h : g < n) : PathJ l ((g : Int) + 1) ↔ PathR l ((g : Int) + 1) n := by
  constructor
  · rintro ⟨h0, h1, h2, h3, h4⟩
    have up : ∀ i j, i + j < l.length → gi l i ≤ gi l (i + j) := by
      intro i j
      induction j with
      | zero => intro _; exact Int.le_refl _
      | succ j ih => intro hj; exact Int.le_trans (ih (by omega)) (h3 (i + j) (by omega))
    refine ⟨fun i hi => ⟨?_, ?_, fun hp => ?_⟩, h0, h2⟩
    · have := up 0 i (by omega); rw [Nat.zero_add] at this; omega
    · have := up i (l.length - 1 - i) (by omega); rw [show i + (l.length - 1 - i) = l.length - 1 by omega] at this; omega
    · have a := h3 (i - 1) (by omega); have b := h4 (i - 1) (by omega)
      rw [show i - 1 + 1 = i by omega] at a b; omega
  · rintro ⟨h3, h0, h2⟩
    refine ⟨h0, (h3 0 h0).1, h2, fun i hi => ?_, fun i hi => ?_⟩
    · have := (h3 (i + 1) hi).2.2 (by omega); rw [show i + 1 - 1 = i by omega] at this; omega
    · have := (h3 (i + 1) hi).2.2 (by omega); rw [show i + 1 - 1 = i by omega] at this; omega

def DidIs (now : Int) (nd nh : Nat) (d : Dd) : Prop :=
  (∀ i, i < d.hs.length → 0 ≤ gi d.hs i ∧ gi d.hs i ≤ (nh : Int) - 1) ∧ (0 ≤ d.cpu ∧ d.cpu ≤ (nd : Int) - 1) ∧ (0 ≤ d.frm ∧ d.frm ≤ d.to) ∧ d.to ≤ now
def DidOk (s : Sn) (d : Dd) : Prop := DidIs s.now s.depths.length s.handles.length d
def Lens (s : Sn) : Prop := s.nu = s.paths.length ∧ s.nm = s.paths.length ∧ s.no = s.paths.length ∧ s.nh = s.paths.length ∧ s.nf = s.paths.length
def Ends (s : Sn) : Prop := (1 ≤ s.nd ∧ s.nd ≤ 8) ∧ (1 ≤ s.paths.length ∧ s.paths.length ≤ 16) ∧ 1 ≤ s.tags.length ∧ s.tags.length ≤ 1024
def TagsOk (s : Sn) : Prop := ∀ i, i < s.tags.length → 0 ≤ gi s.tags i ∧ gi s.tags i ≤ s.nc
def HandlesOk (s : Sn) : Prop := ∀ i, i < s.handles.length → 0 ≤ (gh s.handles i).cache ∧ (gh s.handles i).cache ≤ (s.nc : Int) - 1
def PathsJ (s : Sn) : Prop := ∀ g, g < s.paths.length → PathJ (gp s.paths g) ((g : Int) + 1)
def PathsR (s : Sn) : Prop := ∀ g, g < s.paths.length → PathR (gp s.paths g) ((g : Int) + 1) s.paths.length
def DidsOk (s : Sn) : Prop := ∀ i, i < s.dids.length → DidOk s (gd s.dids i)
def ShapedJ (s : Sn) : Prop := Lens s ∧ Ends s ∧ TagsOk s ∧ HandlesOk s ∧ PathsJ s ∧ DidsOk s
def ShapedR (s : Sn) : Prop := Ends s ∧ Lens s ∧ PathsR s ∧ TagsOk s ∧ HandlesOk s ∧ DidsOk s
theorem shaped_same (s : Sn) : ShapedJ s ↔ ShapedR s := by
  have hp : PathsJ s ↔ PathsR s := forall_congr' fun g => ⟨fun h hg => (path_same _ g _ hg).1 (h hg), fun h hg => (path_same _ g _ hg).2 (h hg)⟩
  unfold ShapedJ ShapedR
  rw [hp]
  constructor
  · rintro ⟨a, b, c, d, e, f⟩; exact ⟨b, a, e, c, d, f⟩
  · rintro ⟨b, a, e, c, d, f⟩; exact ⟨a, b, c, d, e, f⟩

def namesF (d : Dd) (h : Int) : Bool := d.hs.any (· == h)
def givesF (d : Dd) : Bool := d.op == 1 || d.op == 3 || d.op == 12
def takesOp (op : Int) : Bool := op == 2 || op == 4 || op == 13
def takesF (d : Dd) : Bool := d.e == 0 && takesOp d.op
/-- the first place where something holds -/
def firstAt (p : Dd → Bool) : List Dd → Option Nat
  | [] => none
  | d :: r => if p d then some 0 else (firstAt p r).map (· + 1)
theorem firstAt_some {p : Dd → Bool} : ∀ {l : List Dd} {k : Nat}, k < l.length → (∀ j, j < k → p (gd l j) = false) → p (gd l k) = true → firstAt p l = some k
  | [], k, h, _, _ => absurd h (Nat.not_lt_zero _)
  | d :: r, 0, _, _, h => by simp [firstAt, show p d = true from h]
  | d :: r, k + 1, h, hn, hk => by
    have h0 : p d = false := hn 0 (by omega)
    have := firstAt_some (p := p) (l := r) (k := k) (by simpa using h) (fun j hj => hn (j + 1) (by omega)) hk
    simp [firstAt, h0, this]
theorem firstAt_none {p : Dd → Bool} : ∀ {l : List Dd}, (∀ j, j < l.length → p (gd l j) = false) → firstAt p l = none
  | [], _ => rfl
  | d :: r, hn => by
    have h0 : p d = false := hn 0 (by simp)
    have := firstAt_none (p := p) (l := r) (fun j hj => hn (j + 1) (by simpa using hj))
    simp [firstAt, h0, this]

def giveFT (ds : List Dd) (h : Int) : Int × Int :=
  match firstAt (fun d => namesF d h && givesF d) ds with
  | some k => ((gd ds k).frm, (gd ds k).to)
  | none => (0, -1)
/-- the least beginning, as the program reckons it: -1 where none is named -/
def stepJ (n : Bool) (z a : Int) : Int := if n && (decide (a < 0) || decide (z < a)) then z else a
def leastJ (ds : List Dd) (h : Int) : Nat → Int
  | 0 => -1
  | k + 1 => stepJ (namesF (gd ds k) h) (gd ds k).frm (leastJ ds h k)
/-- as the reference reckons it -/
def stepR (n : Bool) (z : Int) (a : Int × Bool) : Int × Bool := if n then (if !a.2 || decide (z < a.1) then z else a.1, true) else a
def leastR (ds : List Dd) (h : Int) : Nat → Int × Bool
  | 0 => (0, false)
  | k + 1 => stepR (namesF (gd ds k) h) (gd ds k).frm (leastR ds h k)
theorem step_same (n : Bool) (z x : Int) (y : Bool) (hz : 0 ≤ z) (h1 : 0 ≤ x) (h2 : y = false → x = 0) :
    0 ≤ (stepR n z (x, y)).1 ∧ ((stepR n z (x, y)).2 = false → (stepR n z (x, y)).1 = 0) ∧ stepJ n z (if y then x else -1) = if (stepR n z (x, y)).2 then (stepR n z (x, y)).1 else -1 := by
  cases n with
  | false => exact ⟨h1, h2, by simp [stepJ, stepR]⟩
  | true =>
    cases y with
    | false => simp [stepJ, stepR, hz]
    | true =>
      by_cases hl : z < x
      · simp [stepJ, stepR, hl, hz]
      · have : ¬ x < 0 := by omega
        simp [stepJ, stepR, hl, h1, this]
theorem least_same (ds : List Dd) (h : Int) : ∀ k, (∀ j, j < k → 0 ≤ (gd ds j).frm) → 0 ≤ (leastR ds h k).1 ∧ ((leastR ds h k).2 = false → (leastR ds h k).1 = 0) ∧ leastJ ds h k = if (leastR ds h k).2 then (leastR ds h k).1 else -1
  | 0, _ => ⟨Int.le_refl _, fun _ => rfl, rfl⟩
  | k + 1, hf => by
    obtain ⟨h1, h2, h3⟩ := least_same ds h k (fun j hj => hf j (by omega))
    have h0 := hf k (by omega)
    have := step_same (namesF (gd ds k) h) (gd ds k).frm (leastR ds h k).1 (leastR ds h k).2 h0 h1 h2
    simp only [leastJ, leastR]
    rw [h3]
    exact this
def takeFT (ds : List Dd) (h : Int) : Int × Int :=
  match firstAt (fun d => namesF d h && takesF d) ds with
  | some k => ((gd ds k).frm, (gd ds k).to)
  | none => ((leastR ds h ds.length).1, -1)
def spG (s : Sn) (i : Nat) : Sp := let h := gh s.handles i; let t := giveFT s.dids (i : Int); ⟨1, h.cache, h.slab, h.obj, t.1, t.2⟩
def spT (s : Sn) (i : Nat) : Sp := let h := gh s.handles i; let t := takeFT s.dids (i : Int); ⟨3, h.cache, h.slab, h.obj, t.1, t.2⟩
def histN (s : Sn) : Nat → List Sp
  | 0 => []
  | k + 1 => histN s k ++ spG s k :: (if (gh s.handles k).out then [] else [spT s k])
theorem histN_length (s : Sn) : ∀ k, (histN s k).length ≤ 2 * k
  | 0 => Nat.le_refl _
  | k + 1 => by have := histN_length s k; unfold histN; rw [List.length_append, List.length_cons]; split <;> simp <;> omega
end Go.Proofs.YtcpafphgkbfahaaGreat
