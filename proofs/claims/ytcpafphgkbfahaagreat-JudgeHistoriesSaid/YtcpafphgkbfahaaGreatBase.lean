/- Helpers of no program: lists in memory, what lies below a mark. -/
import Derived.RangeFuncBox
import Derived.RangeFuncLeaves
import Derived.Shelf.Abstract
import Derived.WalkKit
import Derived.OwnWalkIn
import Derived.TacticsInMore
import Derived.LoopNIn
import Derived.LoopIn
import Derived.Maps.AppendAt
import Derived.Lib.Hide
import Derived.Outline
import Derived.Laws.OwnMore
import Derived.Deep.AppendLies
import Derived.WalkMore
import Derived.RangeFuncNested
import Derived.BigRegionIn
import Derived.Deep.LoopGhost
import Derived.BigQuiet
import Derived.Deep.QuietTactic
import Derived.Deep.RegionHeld3
import Derived.Deep.RegionWith
import Derived.Deep.RegionLaw
import Derived.Deep.OwnRows
import Derived.StillTailTactics
import Derived.IntWalk
import Derived.Test.YtcpafphgkbfahaaGreatProg
namespace Go.Proofs.YtcpafphgkbfahaaGreat
open Go.RowKit Go.Shelf

theorem ret_int {k : IntKind} {a b : Int} (h : a = b) : Ending.returned (.int k a) = .returned (.int k b) := by rw [h]
theorem cell_lit (W : World) (cs : Array Value) (t : TypeId) (j : Nat) : (W.alloc (.cells cs t)).cell? ⟨W.heap.size, j, none⟩ = cs[j]? := by
  have := World.alloc_heap_new W (.cells cs t)
  unfold World.cell?
  rw [this]
  rfl
theorem below_alloc (W : World) (o : Obj) : Below W.heap.size W (W.alloc o) := (Below.refl _ _).alloc (Nat.le_refl _) o
theorem below_then {n₀ : Nat} {a b c : World} (h : Below n₀ a b) (k : Below n₀ b c) : Below n₀ a c :=
  ⟨k.os.trans h.os, k.tape.trans h.tape, k.output.trans h.output, Nat.le_trans h.size k.size, fun i hi => (k.block i hi).trans (h.block i hi)⟩
theorem below_low {n₀ m : Nat} {a b : World} (h : Below m a b) (hn : n₀ ≤ m) : Below n₀ a b :=
  ⟨h.os, h.tape, h.output, h.size, fun i hi => h.block i (by omega)⟩
theorem below_on {n₀ : Nat} {a b c : World} (h : Below n₀ a b) (hs : n₀ ≤ a.heap.size) (k : Below b.heap.size b c) : Below n₀ a c :=
  below_then h (below_low k (Nat.le_trans hs h.size))
theorem below_drewN (w : World) (n : Nat) : Below w.heap.size w (w.drewN n) := ⟨rfl, rfl, rfl, Nat.le_refl _, fun _ _ => rfl⟩
theorem add_plain (b off j : Nat) : (⟨b, off, none⟩ : Addr).add j = ⟨b, off + j, none⟩ := by
  unfold Addr.add; split
  · rename_i h; subst h; rfl
  · rfl
theorem take_snoc {α : Type} (l : List α) (k : Nat) (d : α) (h : k < l.length) : l.take (k + 1) = l.take k ++ [l[k]?.getD d] := by
  rw [List.take_add_one, List.getElem?_eq_getElem h]; rfl
theorem heap_set {W : World} {B : Nat} {cs : Array Value} {t : TypeId} {fr : Nat × Nat} (h : W.heap[B]? = some (.cells cs t fr)) (j : Nat) (u : Value) : (W.setCell ⟨B, j, none⟩ u).heap[B]? = some (.cells (cs.setIfInBounds j u) t fr) := by
  obtain ⟨hlt, hk⟩ := Array.getElem?_eq_some_iff.1 h
  show (W.heap.modify B _)[B]? = _
  rw [Array.getElem?_eq_getElem (by rw [Array.size_modify]; exact hlt), Array.getElem_modify_self, hk]
  rfl
theorem cell_of_heap {W : World} {B : Nat} {cs : Array Value} {t : TypeId} (h : W.heap[B]? = some (.cells cs t (0, 0))) (j : Nat) : W.cell? ⟨B, j, none⟩ = cs[j]? ∧ W.frozen? ⟨B, j, none⟩ = false := by
  constructor <;> simp [World.cell?, World.frozen?, h]
theorem owns_below {w w' : World} {base : Nat} {e : TypeId} {size : Nat} {v : Value} {n : Nat} {xs : List Value} (h : w.ownsRow base e size v n xs) (hb : Below w.heap.size w w') : w'.ownsRow base e size v n xs :=
  h.kept (row := none) ⟨hb.os, hb.tape, hb.output, hb.size, fun k hk _ => hb.block k hk⟩ (by
    rcases h.2 with ⟨rfl, _⟩ | ⟨g, cap, cur, rfl, _⟩
    · exact .inl rfl
    · exact .inr (by simp [Value.ownBlock]))

/-- the slice value sv holds the numbers xs, in a block below n₀ -/
def Ints (n₀ : Nat) (W : World) (sv : Value) (xs : List Int) : Prop :=
  ∃ a cap, sv = .slice a xs.length cap ∧ ∀ j, j < xs.length → ∃ b off, a = some ⟨b, off, none⟩ ∧ b < n₀ ∧ W.cell? ⟨b, off + j, none⟩ = some (.int .i64 (xs[j]?.getD 0))
theorem Ints.below {n₀ : Nat} {A B : World} (h : Below n₀ A B) {sv : Value} {xs : List Int} : Ints n₀ A sv xs → Ints n₀ B sv xs
  | ⟨a, cap, e, hc⟩ => ⟨a, cap, e, fun j hj => let ⟨b, off, e1, h1, h2⟩ := hc j hj; ⟨b, off, e1, h1, (h.cell (p := ⟨b, off + j, none⟩) h1).trans h2⟩⟩
theorem Ints.mono {n₀ n₁ : Nat} {A : World} (h : n₀ ≤ n₁) {sv : Value} {xs : List Int} : Ints n₀ A sv xs → Ints n₁ A sv xs
  | ⟨a, cap, e, hc⟩ => ⟨a, cap, e, fun j hj => let ⟨b, off, e1, h1, h2⟩ := hc j hj; ⟨b, off, e1, Nat.lt_of_lt_of_le h1 h, h2⟩⟩
theorem ints_lit (W : World) (xs : List Int) (cs : Array Value) (t : TypeId) (cap : Nat) (h : cs = (xs.map (Value.int .i64)).toArray) :
    Ints (W.alloc (.cells cs t)).heap.size (W.alloc (.cells cs t)) (.slice (some ⟨W.heap.size, 0, none⟩) xs.length cap) xs := by
  refine ⟨_, _, rfl, fun j hj => ⟨_, _, rfl, by simp, ?_⟩⟩
  rw [Nat.zero_add, cell_lit, h]; simp [List.getElem?_eq_getElem hj]
theorem owns_ints {w : World} {base : Nat} {t : TypeId} {v : Value} {xs : List Int} (h : w.ownsRow base t 1 v xs.length (xs.map (Value.int .i64))) : Ints w.heap.size w v xs := by
  by_cases h0 : xs.length = 0
  · rcases h.2 with ⟨rfl, _⟩ | ⟨g, cap, cur, rfl, _⟩
    · exact ⟨none, 0, by rw [h0], fun j hj => by omega⟩
    · exact ⟨_, cap, rfl, fun j hj => by omega⟩
  · obtain ⟨g, cap, rfl, _, hg⟩ := h.form (by omega)
    refine ⟨_, cap, rfl, fun j hj => ⟨g, 0, rfl, hg, ?_⟩⟩
    rw [Nat.zero_add, h.cellAt j (by omega), List.getElem?_map, List.getElem?_eq_getElem hj]; rfl
end Go.Proofs.YtcpafphgkbfahaaGreat
