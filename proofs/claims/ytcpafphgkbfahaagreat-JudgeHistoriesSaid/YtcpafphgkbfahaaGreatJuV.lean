/- What a snap among the arguments reads as. Conditions: what lies in memory. -/
import Derived.Test.YtcpafphgkbfahaaGreatJuT
import Derived.Test.YtcpafphgkbfahaaGreatRows
import Derived.ProofKit
import Derived.OpenShut
import Derived.ShutString
import Derived.ChangeOld
import Derived.Below
import Derived.Deep.Grids
import Derived.Deep.Slices
import Derived.SizedLaws
import Derived.JoinedCond
namespace Go.Proofs.YtcpafphgkbfahaaGreat
open Go.RowKit Go.Shelf
set_option linter.unusedVariables false
set_option linter.unusedSimpArgs false

open Go.ChangeShapes Go.WideShapes Go.ChangeAt Go.Deep
def OkW {H : Type} (t : TypeId) (d : DataW H) : Prop := ∀ n ∈ d.weights Tryz.prog t, n ≤ reachBytes
theorem cells3' : Tryz.prog.cellsOf 3 = 1 := by kernel_rfl
theorem cells4' : Tryz.prog.cellsOf 4 = 1 := by kernel_rfl
theorem cells22' : Tryz.prog.cellsOf 22 = 1 := by kernel_rfl
theorem cells23' : Tryz.prog.cellsOf 23 = 1 := by kernel_rfl
theorem cells24' : Tryz.prog.cellsOf 24 = 1 := by kernel_rfl
theorem cells25' : Tryz.prog.cellsOf 25 = 1 := by kernel_rfl
theorem cells26' : Tryz.prog.cellsOf 26 = 1 := by kernel_rfl
theorem cells71' : Tryz.prog.cellsOf 71 = 1 := by kernel_rfl
theorem cells70' : Tryz.prog.cellsOf 70 = 5 := by kernel_rfl
theorem cells73' : Tryz.prog.cellsOf 73 = 6 := by kernel_rfl
theorem cells47' : Tryz.prog.cellsOf 47 = 14 := by kernel_rfl
theorem cells43' : Tryz.prog.cellsOf 43 = 3 := by kernel_rfl
theorem cells45' : Tryz.prog.cellsOf 45 = 7 := by kernel_rfl
theorem cells28' : Tryz.prog.cellsOf 28 = 12 := by kernel_rfl
theorem bytes3' : Tryz.prog.bytesOf 3 = 8 := by kernel_rfl
theorem bytes22' : Tryz.prog.bytesOf 22 = 24 := by kernel_rfl
theorem bytes47' : Tryz.prog.bytesOf 47 = 128 := by kernel_rfl
theorem bytes70' : Tryz.prog.bytesOf 70 = 40 := by kernel_rfl
theorem bytes73' : Tryz.prog.bytesOf 73 = 64 := by kernel_rfl
section
variable {H : Type} {enc : TypeId × Value → H} {W : World} {held : Bool}
theorem weights_mem_all {e : TypeId} : ∀ {l : List (DataW H)} {d : DataW H}, d ∈ l → ∀ n ∈ d.weights Tryz.prog e, n ∈ DataW.weightsAll Tryz.prog e l
  | [], _, h, _, _ => by cases h
  | y :: r, d, h, n, hn => by
    simp only [DataW.weightsAll, List.mem_append]
    rcases List.mem_cons.1 h with rfl | h
    · exact .inl hn
    · exact .inr (weights_mem_all h n hn)
theorem field {t : TypeId} {fs : Array Field} {fuel : Nat} {cs : List Value} {x : DataW H × List MemPlace} (ht : Tryz.prog.underlying t = some (.struct fs)) (h : DataW.trod enc Tryz.prog W 0 (fun _ => true) held fuel t cs = some x) (hok : OkW t x.1)
    {i : Nat} {f : Field} (hf : fs[i]? = some f) {k : Nat} (hk : Tryz.prog.cellsOf f.type = k) : ∃ n y, DataW.trod enc Tryz.prog W 0 (fun _ => true) held n f.type ((cs.drop f.offset).take k) = some y ∧ OkW f.type y.1 := by
  obtain ⟨xs, n, _, rfl, _, hn, hall⟩ := DataW.trod_struct ht h
  have hi : i < xs.length := by rw [hn]; exact (Array.getElem?_eq_some_iff.1 hf).1
  have h1 := hall i f hf
  rw [hk, List.getElem?_eq_getElem hi] at h1
  refine ⟨n, xs[i], h1, fun m hm => hok m ?_⟩
  simp only [DataW.weights, ht]
  exact DataW.weights_mem_each (j := i) (t := f.type) (d := (xs[i]).1) (by simp [hf]) (by simp [List.getElem?_eq_getElem hi]) m hm
theorem open_row {t e : TypeId} {k bytes fuel : Nat} {sv : Value} {x : DataW H × List MemPlace} (ht : Tryz.prog.underlying t = some (.slice e)) (hc : Tryz.prog.cellsOf e = k) (hk : 0 < k) (hb : Tryz.prog.bytesOf e = bytes) (h : DataW.trod enc Tryz.prog W 0 (fun _ => true) held fuel t [sv] = some x) (hok : OkW t x.1) :
    ∃ (n : Nat) (f : Nat → Nat → Value), Lies (fun _ => True) W sv k n f ∧ n * bytes ≤ 140737488351232 ∧ ∀ j, j < n → ∃ m y, DataW.trod enc Tryz.prog W 0 (fun _ => true) held m e ((List.range k).map (f j)) = some y ∧ OkW e y.1 := by
  rcases open_slice ht h with ⟨hcs, hx⟩ | ⟨a, len, cap, m, n, D, Pl, hcs, _, hl, hm, hmm, hx, hcell⟩
  · simp only [List.cons.injEq, and_true] at hcs
    subst hcs
    exact ⟨0, fun _ _ => .bool false, ⟨none, 0, rfl, Nat.le_refl _, Nat.zero_le _, fun j hj => absurd hj (Nat.not_lt_zero _)⟩, by omega, fun j hj => absurd hj (Nat.not_lt_zero _)⟩
  · simp only [List.cons.injEq, and_true] at hcs
    subst hcs
    simp only [if_true] at hmm
    subst hmm
    have key : ∀ j, j < len → ∃ cs : List Value, cs.length = k ∧ (∀ i, i < k → W.cell? ((a.add (j * k)).add i) = cs[i]?) ∧ DataW.trod enc Tryz.prog W 0 (fun _ => true) held n e cs = some (D j, Pl j) := by
      intro j hj
      obtain ⟨cs, h1, h2⟩ := hcell j (by omega)
      rw [hc] at h1
      obtain ⟨_, h3, h4⟩ := World.cells?_some h1
      exact ⟨cs, h3, h4, h2⟩
    obtain ⟨C, hC⟩ := choose_lt (α := List Value) (p := fun j cs => cs.length = k ∧ (∀ i, i < k → W.cell? ((a.add (j * k)).add i) = cs[i]?) ∧ DataW.trod enc Tryz.prog W 0 (fun _ => true) held n e cs = some (D j, Pl j)) key
    have hsz : ((List.range len).map D).length + ((List.range (m - len)).map fun j => D (len + j)).length = m := by simp; omega
    refine ⟨len, fun j i => (C j)[i]?.getD (.bool false), ⟨some a, m, rfl, hl, hm, fun j hj => ?_⟩, ?_, fun j hj => ⟨n, (D j, Pl j), ?_, ?_⟩⟩
    · obtain ⟨h3, h4, _⟩ := hC j hj
      obtain ⟨g3, g4, _⟩ := hC 0 (by omega)
      have e0 := g4 0 hk
      rw [List.getElem?_eq_getElem (by omega)] at e0
      have ea : a = ⟨a.block, a.off, none⟩ := by
        have := World.cell?_spot (show W.cell? a = some (C 0)[0] by simpa [Addr.add] using e0)
        cases a; simp at this; subst this; rfl
      refine ⟨a.block, a.off, by rw [← ea], trivial, fun i hi => ?_⟩
      have := h4 i hi
      rw [ea, add_plain, add_plain, List.getElem?_eq_getElem (by omega)] at this
      rw [this]; simp [List.getElem?_eq_getElem (show i < (C j).length by omega)]
    · have := hok (m * bytes) (by rw [hx]; simp only [DataW.weights, ht, hb, hsz]; exact List.mem_cons_self)
      have h2 : len * bytes ≤ m * bytes := Nat.mul_le_mul_right _ hl
      unfold reachBytes at this; omega
    · obtain ⟨h3, _, h5⟩ := hC j hj
      have : (List.range k).map (fun i => (C j)[i]?.getD (.bool false)) = C j := by
        apply List.ext_getElem
        · simp [h3]
        · intro i h1 h2; simp [List.getElem?_eq_getElem h2]
      rw [this]; exact h5
    · intro q hq
      refine hok q ?_
      rw [hx]; simp only [DataW.weights, ht]
      exact List.mem_cons_of_mem _ (List.mem_append.2 (.inl (weights_mem_all (List.mem_map.2 ⟨j, List.mem_range.2 hj, rfl⟩) q hq)))
theorem Lies.congr {P : Nat → Prop} {sv : Value} {k n : Nat} {f g : Nat → Nat → Value} (h : Lies P W sv k n f) (hg : ∀ j, j < n → ∀ i, i < k → f j i = g j i) : Lies P W sv k n g := by
  obtain ⟨a, cap, e, h1, h2, h3⟩ := h
  exact ⟨a, cap, e, h1, h2, fun j hj => by obtain ⟨b, off, e1, hp, hc⟩ := h3 j hj; exact ⟨b, off, e1, hp, fun i hi => by rw [← hg j hj i hi]; exact hc i hi⟩⟩
theorem one_int {t : TypeId} {m : Nat} {v : Value} {y : DataW H × List MemPlace} (ht : Tryz.prog.underlying t = some (.int .i64)) (h : DataW.trod enc Tryz.prog W 0 (fun _ => true) held m t [v] = some y) : ∃ z : Int, v = .int .i64 z := by
  obtain ⟨z, e, _⟩ := DataW.trod_int ht h
  simp only [List.cons.injEq, and_true] at e
  exact ⟨z, e⟩
theorem one_bool {t : TypeId} {m : Nat} {v : Value} {y : DataW H × List MemPlace} (ht : Tryz.prog.underlying t = some .bool) (h : DataW.trod enc Tryz.prog W 0 (fun _ => true) held m t [v] = some y) : ∃ z : Bool, v = .bool z := by
  obtain ⟨z, e, _⟩ := DataW.trod_bool ht h
  simp only [List.cons.injEq, and_true] at e
  exact ⟨z, e⟩
theorem ints_of {fuel : Nat} {sv : Value} {x : DataW H × List MemPlace} (h : DataW.trod enc Tryz.prog W 0 (fun _ => true) held fuel 22 [sv] = some x) (hok : OkW 22 x.1) : ∃ xs : List Int, IntsP (fun _ => True) W sv xs ∧ xs.length * 8 ≤ 140737488351232 := by
  obtain ⟨n, f, hl, hr, hall⟩ := open_row Tryz.underlying22 cells3' (by decide) bytes3' h hok
  obtain ⟨Z, hZ⟩ := choose_lt (α := Int) (p := fun j z => f j 0 = .int .i64 z) (fun j hj => by obtain ⟨m, y, h1, _⟩ := hall j hj; exact one_int Tryz.underlying3 h1)
  refine ⟨(List.range n).map Z, ?_, by simpa using hr⟩
  unfold IntsP
  rw [List.length_map, List.length_range]
  refine hl.congr fun j hj i hi => ?_
  obtain rfl : i = 0 := by omega
  rw [hZ j hj]; simp [gi, hj]
theorem paths_of {fuel : Nat} {sv : Value} {x : DataW H × List MemPlace} (h : DataW.trod enc Tryz.prog W 0 (fun _ => true) held fuel 23 [sv] = some x) (hok : OkW 23 x.1) : ∃ l : List (List Int), PathsP (fun _ => True) W sv l ∧ l.length * 24 ≤ 140737488351232 ∧ ∀ g, g < l.length → (gp l g).length * 8 ≤ 140737488351232 := by
  obtain ⟨n, f, hl, hr, hall⟩ := open_row Tryz.underlying23 cells22' (by decide) bytes22' h hok
  obtain ⟨Z, hZ⟩ := choose_lt (α := List Int) (p := fun j z => IntsP (fun _ => True) W (f j 0) z ∧ z.length * 8 ≤ 140737488351232) (fun j hj => by obtain ⟨m, y, h1, h2⟩ := hall j hj; exact ints_of h1 h2)
  have hg : ∀ j, j < n → gp ((List.range n).map Z) j = Z j := fun j hj => by simp [gp, hj]
  refine ⟨(List.range n).map Z, ⟨fun j => f j 0, ?_, fun j hj => ?_⟩, by simpa using hr, fun g hgg => ?_⟩
  · rw [List.length_map, List.length_range]
    exact hl.congr fun j _ i hi => by obtain rfl : i = 0 := (by omega); rfl
  · have hj' : j < n := by simpa using hj
    rw [hg j hj']; exact (hZ j hj').1
  · have hj' : g < n := by simpa using hgg
    rw [hg g hj']; exact (hZ g hj').2
instance : Inhabited Hd := ⟨hd0⟩
instance : Inhabited Dd := ⟨dd0⟩
instance : Inhabited Ca := ⟨ca0⟩
theorem hds_of {fuel : Nat} {sv : Value} {x : DataW H × List MemPlace} (h : DataW.trod enc Tryz.prog W 0 (fun _ => true) held fuel 25 [sv] = some x) (hok : OkW 25 x.1) : ∃ l : List Hd, HdsP (fun _ => True) W sv l ∧ l.length * 40 ≤ 140737488351232 := by
  obtain ⟨n, f, hl, hr, hall⟩ := open_row Tryz.underlying25 cells70' (by decide) bytes70' h hok
  obtain ⟨Z, hZ⟩ := choose_lt (α := Hd) (p := fun j z => ∀ i, i < 5 → f j i = hdF z i) (fun j hj => by
    obtain ⟨m, y, h1, h2⟩ := hall j hj
    obtain ⟨_, _, g0, _⟩ := field Tryz.underlying70 h1 h2 (i := 0) rfl cells3'
    obtain ⟨_, _, g1, _⟩ := field Tryz.underlying70 h1 h2 (i := 1) rfl cells3'
    obtain ⟨_, _, g2, _⟩ := field Tryz.underlying70 h1 h2 (i := 2) rfl cells3'
    obtain ⟨_, _, g3, _⟩ := field Tryz.underlying70 h1 h2 (i := 3) rfl cells3'
    obtain ⟨_, _, g4, _⟩ := field Tryz.underlying70 h1 h2 (i := 4) rfl cells4'
    obtain ⟨z0, e0⟩ := one_int (v := f j 0) Tryz.underlying3 g0
    obtain ⟨z1, e1⟩ := one_int (v := f j 1) Tryz.underlying3 g1
    obtain ⟨z2, e2⟩ := one_int (v := f j 2) Tryz.underlying3 g2
    obtain ⟨z3, e3⟩ := one_int (v := f j 3) Tryz.underlying3 g3
    obtain ⟨z4, e4⟩ := one_bool (v := f j 4) Tryz.underlying4 g4
    refine ⟨⟨z0, z1, z2, z3, z4⟩, fun i hi => ?_⟩
    obtain rfl | rfl | rfl | rfl | rfl : i = 0 ∨ i = 1 ∨ i = 2 ∨ i = 3 ∨ i = 4 := by omega
    · exact e0
    · exact e1
    · exact e2
    · exact e3
    · exact e4)
  refine ⟨(List.range n).map Z, ?_, by simpa using hr⟩
  unfold HdsP
  rw [List.length_map, List.length_range]
  refine hl.congr fun j hj i hi => ?_
  rw [hZ j hj i hi]; simp [gh, hj]
theorem dds_of {fuel : Nat} {sv : Value} {x : DataW H × List MemPlace} (h : DataW.trod enc Tryz.prog W 0 (fun _ => true) held fuel 26 [sv] = some x) (hok : OkW 26 x.1) : ∃ l : List Dd, DdsP (fun _ => True) W sv l ∧ l.length * 64 ≤ 140737488351232 ∧ ∀ g, g < l.length → (gd l g).hs.length * 8 ≤ 140737488351232 := by
  obtain ⟨n, f, hl, hr, hall⟩ := open_row Tryz.underlying26 cells73' (by decide) bytes73' h hok
  obtain ⟨Z, hZ⟩ := choose_lt (α := Dd) (p := fun j z => (∀ i, i < 6 → f j i = ddF z (f j 5) i) ∧ IntsP (fun _ => True) W (f j 5) z.hs ∧ z.hs.length * 8 ≤ 140737488351232) (fun j hj => by
    obtain ⟨m, y, h1, h2⟩ := hall j hj
    obtain ⟨_, _, g0, _⟩ := field Tryz.underlying73 h1 h2 (i := 0) rfl cells3'
    obtain ⟨_, _, g1, _⟩ := field Tryz.underlying73 h1 h2 (i := 1) rfl cells3'
    obtain ⟨_, _, g2, _⟩ := field Tryz.underlying73 h1 h2 (i := 2) rfl cells3'
    obtain ⟨_, _, g3, _⟩ := field Tryz.underlying73 h1 h2 (i := 3) rfl cells3'
    obtain ⟨_, _, g4, _⟩ := field Tryz.underlying73 h1 h2 (i := 4) rfl cells71'
    obtain ⟨_, _, g5, o5⟩ := field Tryz.underlying73 h1 h2 (i := 5) rfl cells22'
    obtain ⟨z0, e0⟩ := one_int (v := f j 0) Tryz.underlying3 g0
    obtain ⟨z1, e1⟩ := one_int (v := f j 1) Tryz.underlying3 g1
    obtain ⟨z2, e2⟩ := one_int (v := f j 2) Tryz.underlying3 g2
    obtain ⟨z3, e3⟩ := one_int (v := f j 3) Tryz.underlying3 g3
    obtain ⟨z4, e4⟩ := one_int (v := f j 4) Tryz.underlying71 g4
    obtain ⟨zs, e5, r5⟩ := ints_of (sv := f j 5) g5 o5
    refine ⟨⟨z0, z1, z2, z3, z4, zs⟩, fun i hi => ?_, e5, r5⟩
    obtain rfl | rfl | rfl | rfl | rfl | rfl : i = 0 ∨ i = 1 ∨ i = 2 ∨ i = 3 ∨ i = 4 ∨ i = 5 := by omega
    · exact e0
    · exact e1
    · exact e2
    · exact e3
    · exact e4
    · rfl)
  have hg : ∀ j, j < n → gd ((List.range n).map Z) j = Z j := fun j hj => by simp [gd, hj]
  refine ⟨(List.range n).map Z, ⟨fun j => f j 5, ?_, fun j hj => ?_⟩, by simpa using hr, fun g hgg => ?_⟩
  · rw [List.length_map, List.length_range]
    exact hl.congr fun j hj i hi => by rw [hg j hj]; exact (hZ j hj).1 i hi
  · have hj' : j < n := by simpa using hj
    rw [hg j hj']; exact (hZ j hj').2.1
  · have hj' : g < n := by simpa using hgg
    rw [hg g hj']; exact (hZ g hj').2.2
theorem cas_of {fuel : Nat} {sv : Value} {x : DataW H × List MemPlace} (h : DataW.trod enc Tryz.prog W 0 (fun _ => true) held fuel 24 [sv] = some x) (hok : OkW 24 x.1) : ∃ l : List Ca, CasP (fun _ => True) W sv l ∧ l.length * 128 ≤ 140737488351232 ∧ ∀ g, g < l.length → (gc l g).pages.length * 8 ≤ 140737488351232 := by
  obtain ⟨n, f, hl, hr, hall⟩ := open_row Tryz.underlying24 cells47' (by decide) bytes47' h hok
  obtain ⟨Z, hZ⟩ := choose_lt (α := Ca) (p := fun j z => (∀ i, i < 14 → f j i = caF z (f j 6) i) ∧ IntsP (fun _ => True) W (f j 6) z.pages ∧ z.pages.length * 8 ≤ 140737488351232) (fun j hj => by
    obtain ⟨m, y, h1, h2⟩ := hall j hj
    obtain ⟨_, _, s, so⟩ := field Tryz.underlying47 h1 h2 (i := 0) rfl cells43'
    obtain ⟨_, _, g3, _⟩ := field Tryz.underlying47 h1 h2 (i := 1) rfl cells3'
    obtain ⟨_, _, g4, _⟩ := field Tryz.underlying47 h1 h2 (i := 2) rfl cells4'
    obtain ⟨_, _, g5, _⟩ := field Tryz.underlying47 h1 h2 (i := 3) rfl cells3'
    obtain ⟨_, _, g6, o6⟩ := field Tryz.underlying47 h1 h2 (i := 4) rfl cells22'
    obtain ⟨_, _, q, qo⟩ := field Tryz.underlying47 h1 h2 (i := 5) rfl cells45'
    obtain ⟨_, _, g0, _⟩ := field Tryz.underlying43 s so (i := 0) rfl cells3'
    obtain ⟨_, _, g1, _⟩ := field Tryz.underlying43 s so (i := 1) rfl cells3'
    obtain ⟨_, _, g2, _⟩ := field Tryz.underlying43 s so (i := 2) rfl cells3'
    obtain ⟨_, _, g7, _⟩ := field Tryz.underlying45 q qo (i := 0) rfl cells3'
    obtain ⟨_, _, g8, _⟩ := field Tryz.underlying45 q qo (i := 1) rfl cells3'
    obtain ⟨_, _, g9, _⟩ := field Tryz.underlying45 q qo (i := 2) rfl cells3'
    obtain ⟨_, _, g10, _⟩ := field Tryz.underlying45 q qo (i := 3) rfl cells3'
    obtain ⟨_, _, g11, _⟩ := field Tryz.underlying45 q qo (i := 4) rfl cells3'
    obtain ⟨_, _, g12, _⟩ := field Tryz.underlying45 q qo (i := 5) rfl cells3'
    obtain ⟨_, _, g13, _⟩ := field Tryz.underlying45 q qo (i := 6) rfl cells3'
    obtain ⟨z0, e0⟩ := one_int (v := f j 0) Tryz.underlying3 g0
    obtain ⟨z1, e1⟩ := one_int (v := f j 1) Tryz.underlying3 g1
    obtain ⟨z2, e2⟩ := one_int (v := f j 2) Tryz.underlying3 g2
    obtain ⟨z3, e3⟩ := one_int (v := f j 3) Tryz.underlying3 g3
    obtain ⟨z4, e4⟩ := one_bool (v := f j 4) Tryz.underlying4 g4
    obtain ⟨z5, e5⟩ := one_int (v := f j 5) Tryz.underlying3 g5
    obtain ⟨zs, e6, r6⟩ := ints_of (sv := f j 6) g6 o6
    obtain ⟨z7, e7⟩ := one_int (v := f j 7) Tryz.underlying3 g7
    obtain ⟨z8, e8⟩ := one_int (v := f j 8) Tryz.underlying3 g8
    obtain ⟨z9, e9⟩ := one_int (v := f j 9) Tryz.underlying3 g9
    obtain ⟨z10, e10⟩ := one_int (v := f j 10) Tryz.underlying3 g10
    obtain ⟨z11, e11⟩ := one_int (v := f j 11) Tryz.underlying3 g11
    obtain ⟨z12, e12⟩ := one_int (v := f j 12) Tryz.underlying3 g12
    obtain ⟨z13, e13⟩ := one_int (v := f j 13) Tryz.underlying3 g13
    refine ⟨⟨z0, z1, z2, z3, z4, z5, zs, z7, z8, z9, z10, z11, z12, z13⟩, fun i hi => ?_, e6, r6⟩
    obtain rfl | rfl | rfl | rfl | rfl | rfl | rfl | rfl | rfl | rfl | rfl | rfl | rfl | rfl : i = 0 ∨ i = 1 ∨ i = 2 ∨ i = 3 ∨ i = 4 ∨ i = 5 ∨ i = 6 ∨ i = 7 ∨ i = 8 ∨ i = 9 ∨ i = 10 ∨ i = 11 ∨ i = 12 ∨ i = 13 := by omega
    · exact e0
    · exact e1
    · exact e2
    · exact e3
    · exact e4
    · exact e5
    · rfl
    · exact e7
    · exact e8
    · exact e9
    · exact e10
    · exact e11
    · exact e12
    · exact e13)
  have hg : ∀ j, j < n → gc ((List.range n).map Z) j = Z j := fun j hj => by simp [gc, hj]
  refine ⟨(List.range n).map Z, ⟨fun j => f j 6, ?_, fun j hj => ?_⟩, by simpa using hr, fun g hgg => ?_⟩
  · rw [List.length_map, List.length_range]
    exact hl.congr fun j hj i hi => by rw [hg j hj]; exact (hZ j hj).1 i hi
  · have hj' : j < n := by simpa using hj
    rw [hg j hj']; exact (hZ j hj').2.1
  · have hj' : g < n := by simpa using hgg
    rw [hg g hj']; exact (hZ g hj').2.2
set_option maxRecDepth 100000 in
theorem snap_of {r : Reach} {b0 fuel : Nat} {v : Value} {x : DataW H × List MemPlace} (hv : Value.okWide Tryz.prog W r b0 28 v) (h : DataW.trod enc Tryz.prog W 0 (fun _ => true) held fuel 28 v.cells.toList = some x) (hok : OkW 28 x.1) :
    ∃ (S : Sn) (v1 v2 v3 v4 v5 v6 v7 v8 v9 v10 v11 : Value), v = .agg #[.int .i64 S.now, v1, v2, v3, v4, v5, v6, v7, v8, v9, v10, v11] ∧ SnP (fun _ => True) W v1 v2 v3 v4 v5 v6 v7 v8 v9 v10 v11 S ∧ FitsAll S := by
  simp only [Value.okWide, Tryz.underlying28] at hv
  obtain ⟨cs, rfl, hsz, _⟩ := hv
  rw [cells28'] at hsz
  obtain ⟨v0, v1, v2, v3, v4, v5, v6, v7, v8, v9, v10, v11, rfl⟩ : ∃ v0 v1 v2 v3 v4 v5 v6 v7 v8 v9 v10 v11, cs = #[v0, v1, v2, v3, v4, v5, v6, v7, v8, v9, v10, v11] := by
    obtain ⟨l⟩ := cs
    match l, hsz with
    | [v0, v1, v2, v3, v4, v5, v6, v7, v8, v9, v10, v11], _ => exact ⟨v0, v1, v2, v3, v4, v5, v6, v7, v8, v9, v10, v11, rfl⟩
  obtain ⟨_, _, g0, _⟩ := field Tryz.underlying28 h hok (i := 0) rfl cells3'
  obtain ⟨_, _, g1, o1⟩ := field Tryz.underlying28 h hok (i := 1) rfl cells22'
  obtain ⟨_, _, g2, o2⟩ := field Tryz.underlying28 h hok (i := 2) rfl cells23'
  obtain ⟨_, _, g3, o3⟩ := field Tryz.underlying28 h hok (i := 3) rfl cells22'
  obtain ⟨_, _, g4, o4⟩ := field Tryz.underlying28 h hok (i := 4) rfl cells22'
  obtain ⟨_, _, g5, o5⟩ := field Tryz.underlying28 h hok (i := 5) rfl cells22'
  obtain ⟨_, _, g6, o6⟩ := field Tryz.underlying28 h hok (i := 6) rfl cells22'
  obtain ⟨_, _, g7, o7⟩ := field Tryz.underlying28 h hok (i := 7) rfl cells22'
  obtain ⟨_, _, g8, o8⟩ := field Tryz.underlying28 h hok (i := 8) rfl cells22'
  obtain ⟨_, _, g9, o9⟩ := field Tryz.underlying28 h hok (i := 9) rfl cells24'
  obtain ⟨_, _, g10, o10⟩ := field Tryz.underlying28 h hok (i := 10) rfl cells25'
  obtain ⟨_, _, g11, o11⟩ := field Tryz.underlying28 h hok (i := 11) rfl cells26'
  obtain ⟨now, e0⟩ := one_int (v := v0) Tryz.underlying3 g0
  obtain ⟨l1, p1, r1⟩ := ints_of (sv := v1) g1 o1
  obtain ⟨l3, p3, r3⟩ := ints_of (sv := v3) g3 o3
  obtain ⟨l4, p4, r4⟩ := ints_of (sv := v4) g4 o4
  obtain ⟨l5, p5, r5⟩ := ints_of (sv := v5) g5 o5
  obtain ⟨l6, p6, r6⟩ := ints_of (sv := v6) g6 o6
  obtain ⟨l7, p7, r7⟩ := ints_of (sv := v7) g7 o7
  obtain ⟨l8, p8, r8⟩ := ints_of (sv := v8) g8 o8
  obtain ⟨l2, p2, r2, q2⟩ := paths_of (sv := v2) g2 o2
  obtain ⟨l9, p9, r9, q9⟩ := cas_of (sv := v9) g9 o9
  obtain ⟨l10, p10, r10⟩ := hds_of (sv := v10) g10 o10
  obtain ⟨l11, p11, r11, q11⟩ := dds_of (sv := v11) g11 o11
  subst e0
  exact ⟨⟨now, l1, l2, l3, l4, l5, l6, l7, l8, l9, l10, l11⟩, v1, v2, v3, v4, v5, v6, v7, v8, v9, v10, v11, rfl, ⟨p1, p2, p3, p4, p5, p6, p7, p8, p9, p10, p11⟩, ⟨r1, r2, r3, r4, r5, r6, r7, r8, r9, r10, r11, q2, q9, q11⟩⟩
end
end Go.Proofs.YtcpafphgkbfahaaGreat
