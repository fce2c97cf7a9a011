/- Snaps in memory: what a slice's cells read as, in blocks of some kind. Conditions: none. -/
import Derived.Test.YtcpafphgkbfahaaGreatSn
namespace Go.Proofs.YtcpafphgkbfahaaGreat
open Go.RowKit Go.Shelf

/-- the slice value sv holds n elements of k cells, in a block of which P holds -/
def Lies (P : Nat → Prop) (W : World) (sv : Value) (k n : Nat) (f : Nat → Nat → Value) : Prop :=
  ∃ a cap, sv = .slice a n cap ∧ n ≤ cap ∧ cap ≤ maxLen ∧ ∀ j, j < n → ∃ b off, a = some ⟨b, off, none⟩ ∧ P b ∧ ∀ i, i < k → W.cell? ⟨b, off + j * k + i, none⟩ = some (f j i)
theorem cell_of_block {W W' : World} {b : Nat} (h : W'.heap[b]? = W.heap[b]?) (o : Nat) : W'.cell? ⟨b, o, none⟩ = W.cell? ⟨b, o, none⟩ := by
  unfold World.cell?; rw [h]
theorem Lies.keep {P Q : Nat → Prop} {W W' : World} {sv : Value} {k n : Nat} {f : Nat → Nat → Value} (h : Lies P W sv k n f) (hk : 0 < k) (hb : ∀ b, P b → b < W.heap.size → Q b ∧ W'.heap[b]? = W.heap[b]?) : Lies Q W' sv k n f := by
  obtain ⟨a, cap, e, h1, h2, h3⟩ := h
  refine ⟨a, cap, e, h1, h2, fun j hj => ?_⟩
  obtain ⟨b, off, e1, hp, hc⟩ := h3 j hj
  have := World.block_lt_of_cell? W _ (hc 0 hk)
  obtain ⟨q1, q2⟩ := hb b hp this
  exact ⟨b, off, e1, q1, fun i hi => (cell_of_block q2 _).trans (hc i hi)⟩
def IntsP (P : Nat → Prop) (W : World) (sv : Value) (xs : List Int) : Prop := Lies P W sv 1 xs.length (fun j _ => .int .i64 (gi xs j))
def hdF (h : Hd) : Nat → Value
  | 0 => .int .i64 h.cache | 1 => .int .i64 h.slab | 2 => .int .i64 h.obj | 3 => .int .i64 h.group | _ => .bool h.out
def HdsP (P : Nat → Prop) (W : World) (sv : Value) (hs : List Hd) : Prop := Lies P W sv 5 hs.length (fun j => hdF (gh hs j))
def ddF (d : Dd) (v : Value) : Nat → Value
  | 0 => .int .i64 d.cpu | 1 => .int .i64 d.op | 2 => .int .i64 d.frm | 3 => .int .i64 d.to | 4 => .int .i64 d.e | _ => v
def DdsP (P : Nat → Prop) (W : World) (sv : Value) (ds : List Dd) : Prop :=
  ∃ pv : Nat → Value, Lies P W sv 6 ds.length (fun j => ddF (gd ds j) (pv j)) ∧ ∀ j, j < ds.length → IntsP P W (pv j) (gd ds j).hs
def PathsP (P : Nat → Prop) (W : World) (sv : Value) (l : List (List Int)) : Prop :=
  ∃ pv : Nat → Value, Lies P W sv 1 l.length (fun j _ => pv j) ∧ ∀ j, j < l.length → IntsP P W (pv j) (gp l j)
def caF (c : Ca) (v : Value) : Nat → Value
  | 0 => .int .i64 c.size | 1 => .int .i64 c.align | 2 => .int .i64 c.flags | 3 => .int .i64 c.refs | 4 => .bool c.live | 5 => .int .i64 c.waits | 6 => v
  | 7 => .int .i64 c.l0 | 8 => .int .i64 c.l1 | 9 => .int .i64 c.l2 | 10 => .int .i64 c.l3 | 11 => .int .i64 c.order | 12 => .int .i64 c.objects | _ => .int .i64 c.l6
def CasP (P : Nat → Prop) (W : World) (sv : Value) (cs : List Ca) : Prop :=
  ∃ pv : Nat → Value, Lies P W sv 14 cs.length (fun j => caF (gc cs j) (pv j)) ∧ ∀ j, j < cs.length → IntsP P W (pv j) (gc cs j).pages
structure SnP (P : Nat → Prop) (W : World) (v1 v2 v3 v4 v5 v6 v7 v8 v9 v10 v11 : Value) (s : Sn) : Prop where
  d : IntsP P W v1 s.depths
  p : PathsP P W v2 s.paths
  u : IntsP P W v3 s.used
  m : IntsP P W v4 s.most
  o : IntsP P W v5 s.owned
  h : IntsP P W v6 s.held
  f : IntsP P W v7 s.flies
  t : IntsP P W v8 s.tags
  c : CasP P W v9 s.caches
  hs : HdsP P W v10 s.handles
  ds : DdsP P W v11 s.dids
section
variable {P Q : Nat → Prop} {W W' : World}
theorem IntsP.keep {sv : Value} {xs : List Int} (h : IntsP P W sv xs) (hb : ∀ b, P b → b < W.heap.size → Q b ∧ W'.heap[b]? = W.heap[b]?) : IntsP Q W' sv xs := Lies.keep h (by decide) hb
theorem HdsP.keep {sv : Value} {xs : List Hd} (h : HdsP P W sv xs) (hb : ∀ b, P b → b < W.heap.size → Q b ∧ W'.heap[b]? = W.heap[b]?) : HdsP Q W' sv xs := Lies.keep h (by decide) hb
theorem DdsP.keep {sv : Value} {xs : List Dd} (h : DdsP P W sv xs) (hb : ∀ b, P b → b < W.heap.size → Q b ∧ W'.heap[b]? = W.heap[b]?) : DdsP Q W' sv xs :=
  let ⟨pv, h1, h2⟩ := h; ⟨pv, h1.keep (by decide) hb, fun j hj => (h2 j hj).keep hb⟩
theorem PathsP.keep {sv : Value} {xs : List (List Int)} (h : PathsP P W sv xs) (hb : ∀ b, P b → b < W.heap.size → Q b ∧ W'.heap[b]? = W.heap[b]?) : PathsP Q W' sv xs :=
  let ⟨pv, h1, h2⟩ := h; ⟨pv, h1.keep (by decide) hb, fun j hj => (h2 j hj).keep hb⟩
theorem CasP.keep {sv : Value} {xs : List Ca} (h : CasP P W sv xs) (hb : ∀ b, P b → b < W.heap.size → Q b ∧ W'.heap[b]? = W.heap[b]?) : CasP Q W' sv xs :=
  let ⟨pv, h1, h2⟩ := h; ⟨pv, h1.keep (by decide) hb, fun j hj => (h2 j hj).keep hb⟩
theorem SnP.keep {v1 v2 v3 v4 v5 v6 v7 v8 v9 v10 v11 : Value} {s : Sn} (h : SnP P W v1 v2 v3 v4 v5 v6 v7 v8 v9 v10 v11 s) (hb : ∀ b, P b → b < W.heap.size → Q b ∧ W'.heap[b]? = W.heap[b]?) : SnP Q W' v1 v2 v3 v4 v5 v6 v7 v8 v9 v10 v11 s :=
  ⟨h.d.keep hb, h.p.keep hb, h.u.keep hb, h.m.keep hb, h.o.keep hb, h.h.keep hb, h.f.keep hb, h.t.keep hb, h.c.keep hb, h.hs.keep hb, h.ds.keep hb⟩
theorem keeps_below (hb : Below W.heap.size W W') : ∀ b, P b → b < W.heap.size → P b ∧ W'.heap[b]? = W.heap[b]? := fun b hp hl => ⟨hp, hb.block b hl⟩
theorem IntsP.below {sv : Value} {xs : List Int} (h : IntsP P W sv xs) (hb : Below W.heap.size W W') : IntsP P W' sv xs := h.keep (keeps_below hb)
theorem HdsP.below {sv : Value} {xs : List Hd} (h : HdsP P W sv xs) (hb : Below W.heap.size W W') : HdsP P W' sv xs := h.keep (keeps_below hb)
theorem DdsP.below {sv : Value} {xs : List Dd} (h : DdsP P W sv xs) (hb : Below W.heap.size W W') : DdsP P W' sv xs := h.keep (keeps_below hb)
theorem PathsP.below {sv : Value} {xs : List (List Int)} (h : PathsP P W sv xs) (hb : Below W.heap.size W W') : PathsP P W' sv xs := h.keep (keeps_below hb)
theorem CasP.below {sv : Value} {xs : List Ca} (h : CasP P W sv xs) (hb : Below W.heap.size W W') : CasP P W' sv xs := h.keep (keeps_below hb)
theorem SnP.below {v1 v2 v3 v4 v5 v6 v7 v8 v9 v10 v11 : Value} {s : Sn} (h : SnP P W v1 v2 v3 v4 v5 v6 v7 v8 v9 v10 v11 s) (hb : Below W.heap.size W W') : SnP P W' v1 v2 v3 v4 v5 v6 v7 v8 v9 v10 v11 s := h.keep (keeps_below hb)

theorem Lies.form {sv : Value} {k n : Nat} {f : Nat → Nat → Value} (h : Lies P W sv k n f) : ∃ a cap, sv = .slice a n cap ∧ n ≤ cap ∧ cap ≤ maxLen := let ⟨a, cap, e, h1, h2, _⟩ := h; ⟨a, cap, e, h1, h2⟩
theorem IntsP.form {sv : Value} {xs : List Int} (h : IntsP P W sv xs) : ∃ a cap, sv = .slice a xs.length cap ∧ xs.length ≤ cap ∧ cap ≤ maxLen := Lies.form h
theorem HdsP.form {sv : Value} {xs : List Hd} (h : HdsP P W sv xs) : ∃ a cap, sv = .slice a xs.length cap ∧ xs.length ≤ cap ∧ cap ≤ maxLen := Lies.form h
theorem DdsP.form {sv : Value} {xs : List Dd} (h : DdsP P W sv xs) : ∃ a cap, sv = .slice a xs.length cap ∧ xs.length ≤ cap ∧ cap ≤ maxLen := let ⟨_, h1, _⟩ := h; h1.form
theorem PathsP.form {sv : Value} {xs : List (List Int)} (h : PathsP P W sv xs) : ∃ a cap, sv = .slice a xs.length cap ∧ xs.length ≤ cap ∧ cap ≤ maxLen := let ⟨_, h1, _⟩ := h; h1.form
theorem CasP.form {sv : Value} {xs : List Ca} (h : CasP P W sv xs) : ∃ a cap, sv = .slice a xs.length cap ∧ xs.length ≤ cap ∧ cap ≤ maxLen := let ⟨_, h1, _⟩ := h; h1.form

theorem IntsP.at {a : Option Addr} {n c : Nat} {xs : List Int} (h : IntsP P W (.slice a n c) xs) {j : Nat} (hj : j < xs.length) : ∃ b off, a = some ⟨b, off, none⟩ ∧ W.cell? ⟨b, off + j, none⟩ = some (.int .i64 (gi xs j)) := by
  obtain ⟨a', cap, e, _, _, h3⟩ := h
  simp only [Value.slice.injEq] at e
  obtain ⟨rfl, _, _⟩ := e
  obtain ⟨b, off, e1, _, hc⟩ := h3 j hj
  exact ⟨b, off, e1, by simpa using hc 0 (by decide)⟩
theorem HdsP.at {a : Option Addr} {n c : Nat} {xs : List Hd} (h : HdsP P W (.slice a n c) xs) {j : Nat} (hj : j < xs.length) : ∃ b off, a = some ⟨b, off, none⟩ ∧
    W.cell? ⟨b, off + j * 5, none⟩ = some (.int .i64 (gh xs j).cache) ∧ W.cell? ⟨b, off + j * 5 + 1, none⟩ = some (.int .i64 (gh xs j).slab) ∧ W.cell? ⟨b, off + j * 5 + 2, none⟩ = some (.int .i64 (gh xs j).obj) ∧
    W.cell? ⟨b, off + j * 5 + 3, none⟩ = some (.int .i64 (gh xs j).group) ∧ W.cell? ⟨b, off + j * 5 + 4, none⟩ = some (.bool (gh xs j).out) := by
  obtain ⟨a', cap, e, _, _, h3⟩ := h
  simp only [Value.slice.injEq] at e
  obtain ⟨rfl, _, _⟩ := e
  obtain ⟨b, off, e1, _, hc⟩ := h3 j hj
  exact ⟨b, off, e1, hc 0 (by decide), hc 1 (by decide), hc 2 (by decide), hc 3 (by decide), hc 4 (by decide)⟩
theorem DdsP.at {a : Option Addr} {n c : Nat} {xs : List Dd} (h : DdsP P W (.slice a n c) xs) {j : Nat} (hj : j < xs.length) : ∃ b off v, a = some ⟨b, off, none⟩ ∧
    W.cell? ⟨b, off + j * 6, none⟩ = some (.int .i64 (gd xs j).cpu) ∧ W.cell? ⟨b, off + j * 6 + 1, none⟩ = some (.int .i64 (gd xs j).op) ∧ W.cell? ⟨b, off + j * 6 + 2, none⟩ = some (.int .i64 (gd xs j).frm) ∧
    W.cell? ⟨b, off + j * 6 + 3, none⟩ = some (.int .i64 (gd xs j).to) ∧ W.cell? ⟨b, off + j * 6 + 4, none⟩ = some (.int .i64 (gd xs j).e) ∧ W.cell? ⟨b, off + j * 6 + 5, none⟩ = some v ∧ IntsP P W v (gd xs j).hs := by
  obtain ⟨pv, ⟨a', cap, e, _, _, h3⟩, h4⟩ := h
  simp only [Value.slice.injEq] at e
  obtain ⟨rfl, _, _⟩ := e
  obtain ⟨b, off, e1, _, hc⟩ := h3 j hj
  exact ⟨b, off, pv j, e1, hc 0 (by decide), hc 1 (by decide), hc 2 (by decide), hc 3 (by decide), hc 4 (by decide), hc 5 (by decide), h4 j hj⟩
theorem PathsP.at {a : Option Addr} {n c : Nat} {xs : List (List Int)} (h : PathsP P W (.slice a n c) xs) {j : Nat} (hj : j < xs.length) : ∃ b off v, a = some ⟨b, off, none⟩ ∧ W.cell? ⟨b, off + j, none⟩ = some v ∧ IntsP P W v (gp xs j) := by
  obtain ⟨pv, ⟨a', cap, e, _, _, h3⟩, h4⟩ := h
  simp only [Value.slice.injEq] at e
  obtain ⟨rfl, _, _⟩ := e
  obtain ⟨b, off, e1, _, hc⟩ := h3 j hj
  exact ⟨b, off, pv j, e1, by simpa using hc 0 (by decide), h4 j hj⟩
end
end Go.Proofs.YtcpafphgkbfahaaGreat
