/- An evaluator of closed runs: what its words say of a world. -/
import Derived.RowKit3
import Derived.Laws.CopyRow
import Derived.Laws.Entries
import Derived.Below
import Derived.ChangeKeysEq
import Derived.RangeFuncRecord
import Derived.MapKept
import Derived.Test.YtcpafphgkbfahaaGreatEvB
namespace Go.Proofs.YtcpafphgkbfahaaGreat
open Go Go.RowKit

/-! ### Tables -/
theorem Tr.get_nil {α : Type} (k : Nat) : (Tr.nil : Tr α).get k = none := rfl
theorem brec {α : Type} (x y : α) (b : Bool) : @Bool.rec (fun _ => α) x y b = if b = true then y else x := by cases b <;> rfl
theorem beqt (a b : Nat) : (Nat.beq a b = true) = (a = b) := by simp
theorem Tr.get_node {α : Type} (v : Option α) (a b c d : Tr α) (k : Nat) : (Tr.node v a b c d).get k =
    if k = 0 then v else if (k - 1) % 4 ≤ 1 then (if (k - 1) % 4 = 0 then a.get ((k - 1) / 4) else b.get ((k - 1) / 4)) else (if (k - 1) % 4 = 2 then c.get ((k - 1) / 4) else d.get ((k - 1) / 4)) := by
  show @Bool.rec (fun _ => Option α) (@Bool.rec (fun _ => Option α)
        (@Bool.rec (fun _ => Option α) (d.get ((k - 1) / 4)) (c.get ((k - 1) / 4)) (Nat.beq ((k - 1) % 4) 2))
        (@Bool.rec (fun _ => Option α) (b.get ((k - 1) / 4)) (a.get ((k - 1) / 4)) (Nat.beq ((k - 1) % 4) 0)) (Nat.ble ((k - 1) % 4) 1)) v (Nat.beq k 0) = _
  simp only [brec, beqt, Nat.ble_eq]
theorem Tr.putF_nil {α : Type} (x : Option α) (f k : Nat) : Tr.putF x (f + 1) .nil k =
    if k = 0 then .node x .nil .nil .nil .nil else if (k - 1) % 4 ≤ 1 then (if (k - 1) % 4 = 0 then .node none (Tr.putF x f .nil ((k - 1) / 4)) .nil .nil .nil else .node none .nil (Tr.putF x f .nil ((k - 1) / 4)) .nil .nil)
      else (if (k - 1) % 4 = 2 then .node none .nil .nil (Tr.putF x f .nil ((k - 1) / 4)) .nil else .node none .nil .nil .nil (Tr.putF x f .nil ((k - 1) / 4))) := by
  show @Bool.rec (fun _ => Tr α) (@Bool.rec (fun _ => Tr α)
        (@Bool.rec (fun _ => Tr α) (.node none .nil .nil .nil (Tr.putF x f .nil ((k - 1) / 4))) (.node none .nil .nil (Tr.putF x f .nil ((k - 1) / 4)) .nil) (Nat.beq ((k - 1) % 4) 2))
        (@Bool.rec (fun _ => Tr α) (.node none .nil (Tr.putF x f .nil ((k - 1) / 4)) .nil .nil) (.node none (Tr.putF x f .nil ((k - 1) / 4)) .nil .nil .nil) (Nat.beq ((k - 1) % 4) 0)) (Nat.ble ((k - 1) % 4) 1)) (.node x .nil .nil .nil .nil) (Nat.beq k 0) = _
  simp only [brec, beqt, Nat.ble_eq]
theorem Tr.putF_node {α : Type} (x : Option α) (f k : Nat) (v : Option α) (a b c d : Tr α) : Tr.putF x (f + 1) (.node v a b c d) k =
    if k = 0 then .node x a b c d else if (k - 1) % 4 ≤ 1 then (if (k - 1) % 4 = 0 then .node v (Tr.putF x f a ((k - 1) / 4)) b c d else .node v a (Tr.putF x f b ((k - 1) / 4)) c d)
      else (if (k - 1) % 4 = 2 then .node v a b (Tr.putF x f c ((k - 1) / 4)) d else .node v a b c (Tr.putF x f d ((k - 1) / 4))) := by
  show @Bool.rec (fun _ => Tr α) (@Bool.rec (fun _ => Tr α)
        (@Bool.rec (fun _ => Tr α) (.node v a b c (Tr.putF x f d ((k - 1) / 4))) (.node v a b (Tr.putF x f c ((k - 1) / 4)) d) (Nat.beq ((k - 1) % 4) 2))
        (@Bool.rec (fun _ => Tr α) (.node v a (Tr.putF x f b ((k - 1) / 4)) c d) (.node v (Tr.putF x f a ((k - 1) / 4)) b c d) (Nat.beq ((k - 1) % 4) 0)) (Nat.ble ((k - 1) % 4) 1)) (.node x a b c d) (Nat.beq k 0) = _
  simp only [brec, beqt, Nat.ble_eq]
theorem Tr.get_putF {α : Type} (x : Option α) : ∀ (f : Nat) (t : Tr α) (k : Nat), k < f → ∀ j, (Tr.putF x f t k).get j = if j = k then x else t.get j
  | 0, _, k, h, _ => by omega
  | f + 1, t, k, h, j => by
    have ih := Tr.get_putF x f
    by_cases h0 : k = 0
    · subst h0
      cases t with
      | nil => rw [Tr.putF_nil, if_pos rfl, Tr.get_node]; by_cases hj : j = 0 <;> simp [hj, Tr.get_nil]
      | node v a b c d => rw [Tr.putF_node, if_pos rfl, Tr.get_node, Tr.get_node]; by_cases hj : j = 0 <;> simp [hj]
    · have hq : (k - 1) / 4 < f := by omega
      have e : ∀ (t : Tr α), (Tr.putF x f t ((k - 1) / 4)).get ((j - 1) / 4) = if (j - 1) / 4 = (k - 1) / 4 then x else t.get ((j - 1) / 4) := fun t => ih t _ hq _
      by_cases hj : j = 0
      · subst hj
        rw [if_neg (fun h => h0 h.symm)]
        cases t with
        | nil =>
          rw [Tr.putF_nil, if_neg h0, Tr.get_nil]
          repeat' split
          all_goals rw [Tr.get_node, if_pos rfl]
        | node v a b c d =>
          rw [Tr.putF_node, if_neg h0, Tr.get_node, if_pos rfl]
          repeat' split
          all_goals rw [Tr.get_node, if_pos rfl]
      · by_cases hjk : j = k
        · subst hjk
          rw [if_pos rfl]
          cases t with
          | nil =>
            rw [Tr.putF_nil, if_neg h0]
            repeat' split
            all_goals rw [Tr.get_node, if_neg hj]
            all_goals simp_all <;> (intro hx; omega)
          | node v a b c d =>
            rw [Tr.putF_node, if_neg h0]
            repeat' split
            all_goals rw [Tr.get_node, if_neg hj]
            all_goals simp_all <;> (intro hx; omega)
        · rw [if_neg hjk]
          have ne : (j - 1) % 4 = (k - 1) % 4 → ¬ (j - 1) / 4 = (k - 1) / 4 := by omega
          have hm : (k - 1) % 4 = 0 ∨ (k - 1) % 4 = 1 ∨ (k - 1) % 4 = 2 ∨ (k - 1) % 4 = 3 := by omega
          have hn : (j - 1) % 4 = 0 ∨ (j - 1) % 4 = 1 ∨ (j - 1) % 4 = 2 ∨ (j - 1) % 4 = 3 := by omega
          cases t with
          | nil =>
            rw [Tr.putF_nil, if_neg h0, Tr.get_nil]
            rcases hm with hm | hm | hm | hm <;> rcases hn with hn | hn | hn | hn <;> simp_all [Tr.get_node, Tr.get_nil]
          | node v a b c d =>
            rw [Tr.putF_node, if_neg h0]
            rcases hm with hm | hm | hm | hm <;> rcases hn with hn | hn | hn | hn <;> simp_all [Tr.get_node]
theorem Tr.get_put {α : Type} (t : Tr α) (k : Nat) (x : Option α) (j : Nat) : (t.put k x).get j = if j = k then x else t.get j :=
  Tr.get_putF x (k + 1) t k (by omega) j
theorem Tr.get_ofL {α : Type} : ∀ (vs : List α) (i : Nat) (t : Tr α) (j : Nat), (Tr.ofL vs i t).get j = if i ≤ j ∧ j < i + vs.length then vs[j - i]? else t.get j
  | [], i, t, j => by rw [Tr.ofL, if_neg (by simp)]
  | v :: vs, i, t, j => by
    rw [Tr.ofL, Tr.get_ofL vs (i + 1) _ j, Tr.get_put]
    by_cases e : j = i
    · subst e
      rw [if_neg (by omega), if_pos rfl, if_pos (by simp), Nat.sub_self]; rfl
    · by_cases h : i + 1 ≤ j ∧ j < i + 1 + vs.length
      · rw [if_pos h, if_pos (by simp; omega), show j - i = j - (i + 1) + 1 by omega, List.getElem?_cons_succ]
      · rw [if_neg h, if_neg e, if_neg (by simp; omega)]
theorem Tr.get_ofL0 {α : Type} (vs : List α) (j : Nat) : (Tr.ofL vs 0 .nil).get j = vs[j]? := by
  rw [Tr.get_ofL]
  by_cases h : j < vs.length
  · rw [if_pos (by omega)]; rfl
  · rw [if_neg (by omega), List.getElem?_eq_none (by omega)]; rfl

/-! ### Names of blocks; values -/
/-- where a block of the evaluator's lies: the block, how far in, how many cells the block has, the size of a slice's elements -/
structure BI where
  r : Nat
  δ : Nat
  sz : Nat
  es : Nat
abbrev Emb := Nat → Option BI
inductive VRel (φ : Emb) : Value → Value → Prop
  | bool (b : Bool) : VRel φ (.bool b) (.bool b)
  | int (k : IntKind) (n : Int) : VRel φ (.int k n) (.int k n)
  | float (k : FloatKind) (b : Nat) : VRel φ (.float k b) (.float k b)
  | complex (k : FloatKind) (a b : Nat) : VRel φ (.complex k a b) (.complex k a b)
  | string (s : ByteArray) : VRel φ (.string s) (.string s)
  | nilFunc : VRel φ .nilFunc .nilFunc
  | nilIface : VRel φ .nilIface .nilIface
  | nilPtr : VRel φ (.pointer none) (.pointer none)
  | nilSlice (l c : Nat) : VRel φ (.slice none l c) (.slice none l c)
  | nilMap : VRel φ (.map none) (.map none)
  | nilChan : VRel φ (.chan none) (.chan none)
  | ptr {b o : Nat} {i : BI} (h : φ b = some i) : VRel φ (.pointer (some ⟨b, o, none⟩)) (.pointer (some ⟨i.r, i.δ + o, none⟩))
  | slice {b o l c : Nat} {i : BI} (h : φ b = some i) : VRel φ (.slice (some ⟨b, o, none⟩) l c) (.slice (some ⟨i.r, i.δ + o, none⟩) l c)
  | sliceG {b o l c c' es : Nat} {i : BI} (h : φ b = some i) (hc : c ≤ c') (he : i.es = es) (hr : i.δ + o + c' * es ≤ i.sz) : VRel φ (.slice (some ⟨b, o, some es⟩) l c) (.slice (some ⟨i.r, i.δ + o, none⟩) l c')
  | sliceE {b o o' c' es : Nat} {i : BI} (h : φ b = some i) (he : i.es = es) (hr : o' + c' * es ≤ i.sz) : VRel φ (.slice (some ⟨b, o, some es⟩) 0 0) (.slice (some ⟨i.r, o', none⟩) 0 c')
  | map {b : Nat} {i : BI} (h : φ b = some i) : VRel φ (.map (some b)) (.map (some i.r))
  | yield {l : Nat} {i : BI} (h : φ l = some i) : VRel φ (.func (.yield l) #[] #[]) (.func (.yield i.r) #[] #[])
  | func {fn : Fn} {a a' c c' : Array Value} (hf : fnOk fn = true) (ha : a.size = a'.size) (h1 : ∀ (j : Nat) (x y : Value), a[j]? = some x → a'[j]? = some y → VRel φ x y)
      (hc : c.size = c'.size) (h2 : ∀ (j : Nat) (x y : Value), c[j]? = some x → c'[j]? = some y → VRel φ x y) : VRel φ (.func fn a c) (.func fn a' c')
  | iface (t : TypeId) {v v' : Value} (h : VRel φ v v') : VRel φ (.iface t v) (.iface t v')
  | agg {a a' : Array Value} (ha : a.size = a'.size) (h1 : ∀ (j : Nat) (x y : Value), a[j]? = some x → a'[j]? = some y → VRel φ x y) : VRel φ (.agg a) (.agg a')
  | tuple {a a' : Array Value} (ha : a.size = a'.size) (h1 : ∀ (j : Nat) (x y : Value), a[j]? = some x → a'[j]? = some y → VRel φ x y) : VRel φ (.tuple a) (.tuple a')
def Ext (φ ψ : Emb) : Prop := ∀ b i, φ b = some i → ψ b = some i
theorem Ext.refl (φ : Emb) : Ext φ φ := fun _ _ h => h
theorem Ext.trans {φ ψ χ : Emb} (h : Ext φ ψ) (k : Ext ψ χ) : Ext φ χ := fun b i e => k b i (h b i e)
theorem VRel.mono {φ ψ : Emb} (h : Ext φ ψ) {v v' : Value} (r : VRel φ v v') : VRel ψ v v' := by
  induction r with
  | bool b => exact .bool b
  | int k n => exact .int k n
  | float k b => exact .float k b
  | complex k a b => exact .complex k a b
  | string s => exact .string s
  | nilFunc => exact .nilFunc
  | nilIface => exact .nilIface
  | nilPtr => exact .nilPtr
  | nilSlice l c => exact .nilSlice l c
  | nilMap => exact .nilMap
  | nilChan => exact .nilChan
  | ptr e => exact .ptr (h _ _ e)
  | slice e => exact .slice (h _ _ e)
  | sliceG e hc he hr => exact .sliceG (h _ _ e) hc he hr
  | sliceE e he hr => exact .sliceE (h _ _ e) he hr
  | map e => exact .map (h _ _ e)
  | yield e => exact .yield (h _ _ e)
  | func hf ha _ hc _ ih1 ih2 => exact .func hf ha ih1 hc ih2
  | iface t _ ih => exact .iface t ih
  | agg ha _ ih => exact .agg ha ih
  | tuple ha _ ih => exact .tuple ha ih
/-- lists of values, one by one -/
def LRel (φ : Emb) (a b : List Value) : Prop := a.length = b.length ∧ ∀ (j : Nat) (x y : Value), a[j]? = some x → b[j]? = some y → VRel φ x y
theorem LRel.mono {φ ψ : Emb} (h : Ext φ ψ) {a b : List Value} (r : LRel φ a b) : LRel ψ a b := ⟨r.1, fun j x y e f => (r.2 j x y e f).mono h⟩
theorem LRel.nil (φ : Emb) : LRel φ [] [] := ⟨rfl, fun j x y e _ => by simp at e⟩
theorem LRel.cons {φ : Emb} {x y : Value} {a b : List Value} (h : VRel φ x y) (r : LRel φ a b) : LRel φ (x :: a) (y :: b) :=
  ⟨by simp [r.1], fun j u v e f => by
    cases j with
    | zero => simp at e f; subst e; subst f; exact h
    | succ j => simp at e f; exact r.2 j u v e f⟩
theorem LRel.cons_inv {φ : Emb} {x : Value} {a b : List Value} (h : LRel φ (x :: a) b) : ∃ y b', b = y :: b' ∧ VRel φ x y ∧ LRel φ a b' := by
  cases b with
  | nil => simp [LRel] at h
  | cons y b' => exact ⟨y, b', rfl, h.2 0 x y rfl rfl, by simpa using h.1, fun j u v e f => h.2 (j + 1) u v (by simpa using e) (by simpa using f)⟩
theorem LRel.nil_inv {φ : Emb} {b : List Value} (h : LRel φ [] b) : b = [] := by
  cases b with
  | nil => rfl
  | cons y b' => simp [LRel] at h
theorem LRel.get {φ : Emb} {a b : List Value} (h : LRel φ a b) {j : Nat} {x : Value} (e : a[j]? = some x) : ∃ y, b[j]? = some y ∧ VRel φ x y := by
  have hj : j < a.length := (List.getElem?_eq_some_iff.1 e).1
  exact ⟨b[j]'(h.1 ▸ hj), by simp [h.1 ▸ hj], h.2 j x _ e (by simp [h.1 ▸ hj])⟩
theorem LRel.append {φ : Emb} {a b c d : List Value} (h : LRel φ a b) (k : LRel φ c d) : LRel φ (a ++ c) (b ++ d) :=
  ⟨by simp [h.1, k.1], fun j x y e f => by
    by_cases hj : j < a.length
    · rw [List.getElem?_append_left hj] at e
      rw [List.getElem?_append_left (h.1 ▸ hj)] at f
      exact h.2 j x y e f
    · rw [List.getElem?_append_right (by omega)] at e
      rw [List.getElem?_append_right (by have := h.1; omega)] at f
      exact k.2 (j - a.length) x y e (by rw [h.1]; exact f)⟩
theorem VRel.agg_list {φ : Emb} {a b : Array Value} (h : LRel φ a.toList b.toList) : VRel φ (.agg a) (.agg b) :=
  .agg (by simpa using h.1) (fun j x y e f => h.2 j x y (by simpa using e) (by simpa using f))
theorem VRel.tuple_list {φ : Emb} {a b : Array Value} (h : LRel φ a.toList b.toList) : VRel φ (.tuple a) (.tuple b) :=
  .tuple (by simpa using h.1) (fun j x y e f => h.2 j x y (by simpa using e) (by simpa using f))
theorem LRel.of_array {φ : Emb} {a b : Array Value} (ha : a.size = b.size) (h : ∀ (j : Nat) (x y : Value), a[j]? = some x → b[j]? = some y → VRel φ x y) : LRel φ a.toList b.toList :=
  ⟨by simpa using ha, fun j x y e f => h j x y (by simpa using e) (by simpa using f)⟩
/-- a value that is the same in every world -/
def Ground (v : Value) : Prop := (∀ φ, VRel φ v v) ∧ ∀ φ v', VRel φ v v' → v' = v
theorem ground_of : ∀ (n : Nat) (v : Value), groundB n v = true → Ground v := by
  have hl : ∀ (n : Nat), (∀ v, groundB n v = true → Ground v) → ∀ (cs : Array Value), cs.toList.all (groundB n) = true → (∀ φ (j : Nat) (x y : Value), cs[j]? = some x → cs[j]? = some y → VRel φ x y) ∧
      ∀ φ (cs' : Array Value), cs.size = cs'.size → (∀ (j : Nat) (x y : Value), cs[j]? = some x → cs'[j]? = some y → VRel φ x y) → cs' = cs := by
    intro n ih cs h
    rw [List.all_eq_true] at h
    have hm : ∀ (j : Nat) (x : Value), cs[j]? = some x → Ground x := fun j x e => ih x (h x (by
      obtain ⟨hj, e⟩ := Array.getElem?_eq_some_iff.1 e
      exact e ▸ (by simp)))
    refine ⟨fun φ j x y e f => ?_, fun φ cs' hs h1 => ?_⟩
    · have : x = y := Option.some.inj (e.symm.trans f)
      exact this ▸ (hm j x e).1 φ
    · refine Array.ext hs.symm (fun j hj1 hj2 => ?_)
      exact (hm j cs[j] (by simp [hj2])).2 φ _ (h1 j _ _ (by simp [hj2]) (by simp [hj1]))
  intro n
  induction n with
  | zero =>
    intro v h
    unfold groundB at h
    split at h <;> first
      | (cases h; done)
      | (exact ⟨fun φ => by constructor, fun φ v' r => by cases r; rfl⟩)
      | (rename_i h0 _; simp at h0)
      | (rename_i h0; simp at h0)
  | succ n ih =>
    intro v h
    unfold groundB at h
    split at h <;> first
      | (cases h; done)
      | (exact ⟨fun φ => by constructor, fun φ v' r => by cases r; rfl⟩)
      | skip
    · rename_i t v h0
      have : n = _ := Nat.succ.inj h0
      subst this
      exact ⟨fun φ => .iface t ((ih v h).1 φ), fun φ v' r => by cases r with | iface t r => rw [(ih v h).2 φ _ r]⟩
    · rename_i cs h0
      have : n = _ := Nat.succ.inj h0
      subst this
      obtain ⟨p, q⟩ := hl n ih cs h
      exact ⟨fun φ => .agg rfl (p φ), fun φ v' r => by cases r with | agg ha h1 => rw [q φ _ ha h1]⟩
    · rename_i cs h0
      have : n = _ := Nat.succ.inj h0
      subst this
      obtain ⟨p, q⟩ := hl n ih cs h
      exact ⟨fun φ => .tuple rfl (p φ), fun φ v' r => by cases r with | tuple ha h1 => rw [q φ _ ha h1]⟩
theorem VRel.cells {φ : Emb} {v v' : Value} (h : VRel φ v v') : LRel φ v.cells.toList v'.cells.toList := by
  cases h with
  | agg ha h1 => exact LRel.of_array ha h1
  | _ => exact LRel.cons (by first | assumption | (constructor; done) | (constructor <;> assumption) | exact .slice ‹_› | exact .sliceE ‹_› ‹_› ‹_›) (LRel.nil _)
theorem VRel.one {φ : Emb} {v v' : Value} (h : VRel φ v v') : v'.oneCell' = v.oneCell' := by cases h <;> rfl
end Go.Proofs.YtcpafphgkbfahaaGreat
