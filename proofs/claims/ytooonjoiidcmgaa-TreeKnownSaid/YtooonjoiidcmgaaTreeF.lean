/- The two trees, kept as one's own: contracts that keep them apart by what their blocks hold. -/
import Derived.Test.YtooonjoiidcmgaaTreeE
namespace Go.Proofs.Ytooonjoiidcmgaa
open Go.RowKit Go.Shelf

def TO (n₀ : Nat) (w : World) (B : Nat) (st : List Nd) : Prop := Inv st ∧ n₀ ≤ B ∧ ∃ R, n₀ ≤ R ∧ TAt w B R st
def MO (n₀ : Nat) (w : World) (B : Nat) (st : List Nd) : Prop := Inv st ∧ n₀ ≤ B ∧ ∃ U O, n₀ ≤ U ∧ n₀ ≤ O ∧ MAt w B U O st
/-- an own block that holds such a type -/
def STy (n₀ : Nat) (ts : List TypeId) (w : World) (k : Nat) : Prop := n₀ ≤ k ∧ ∃ cs t fr, w.heap[k]? = some (.cells cs t fr) ∧ t ∈ ts
def TTy : List TypeId := [60, 67]
def MTy : List TypeId := [69, 3, 4]
theorem STy.not {n₀ k : Nat} {ts : List TypeId} {w : World} {cs : Array Value} {t : TypeId} {fr : Nat × Nat} (h : w.heap[k]? = some (.cells cs t fr)) (ht : t ∉ ts) : ¬ STy n₀ ts w k := by
  rintro ⟨_, cs', t', fr', h', hm⟩
  rw [h] at h'; injection h' with h'; injection h' with _ e _; subst e; exact ht hm

theorem TO.lt {n₀ : Nat} {w : World} {B : Nat} {st : List Nd} (h : TO n₀ w B st) : n₀ ≤ w.heap.size := by
  obtain ⟨_, hB, R, _, ht⟩ := h
  have := ht.rd.ltB; omega
theorem MO.lt {n₀ : Nat} {w : World} {B : Nat} {st : List Nd} (h : MO n₀ w B st) : n₀ ≤ w.heap.size := by
  obtain ⟨_, hB, R, O, _, _, ht⟩ := h
  have := ht.rd.ltB; omega
theorem TO.rd {n₀ : Nat} {w : World} {B : Nat} {st : List Nd} (h : TO n₀ w B st) : ∃ R, TRd w B R st.length st := by
  obtain ⟨_, _, R, _, ht⟩ := h
  exact ⟨R, ht.rd⟩
theorem MO.rd {n₀ : Nat} {w : World} {B : Nat} {st : List Nd} (h : MO n₀ w B st) : ∃ U O, MRd w B U O st.length st := by
  obtain ⟨_, _, U, O, _, _, ht⟩ := h
  exact ⟨U, O, ht.rd⟩
theorem TAt.types {w : World} {B R : Nat} {st : List Nd} (h : TAt w B R st) : (∃ cs fr, w.heap[B]? = some (.cells cs 60 fr)) ∧ (∃ cs fr, w.heap[R]? = some (.cells cs 67 fr)) := by
  obtain ⟨cap, hb, ho⟩ := h
  obtain ⟨cur, hR⟩ := owns_type ho
  exact ⟨⟨_, _, hb⟩, ⟨_, _, hR⟩⟩
theorem TO.turned {n₀ n₁ : Nat} {w w' : World} {B : Nat} {st : List Nd} {ts : List TypeId} (h : TO n₀ w B st) (ht : Turned (STy n₁ ts w) w w') (h1 : 60 ∉ ts) (h2 : 67 ∉ ts) : TO n₀ w' B st := by
  obtain ⟨hi, hB, R, hR, ha⟩ := h
  obtain ⟨⟨c1, f1, e1⟩, ⟨c2, f2, e2⟩⟩ := ha.types
  exact ⟨hi, hB, R, hR, ha.kept ht (STy.not e1 h1) (STy.not e2 h2)⟩
theorem TO.below {n₀ : Nat} {w w' : World} {B : Nat} {st : List Nd} (h : TO n₀ w B st) (hb : Below w.heap.size w w') : TO n₀ w' B st :=
  h.turned (n₁ := 0) (ts := []) (Turned.of_below hb) (by simp) (by simp)
theorem MO.turned {n₀ n₁ : Nat} {w w' : World} {B : Nat} {st : List Nd} {ts : List TypeId} (h : MO n₀ w B st) (ht : Turned (STy n₁ ts w) w w') (h1 : 69 ∉ ts) (h2 : 3 ∉ ts) (h3 : 4 ∉ ts) : MO n₀ w' B st := by
  obtain ⟨hi, hB, U, O, hU, hO, ha⟩ := h
  obtain ⟨cu, co, e1, u, o⟩ := id ha
  obtain ⟨_, e2⟩ := owns_type u
  obtain ⟨_, e3⟩ := owns_type o
  exact ⟨hi, hB, U, O, hU, hO, ha.kept ht (STy.not e1 h1) (STy.not e2 h2) (STy.not e3 h3)⟩
theorem MO.below {n₀ : Nat} {w w' : World} {B : Nat} {st : List Nd} (h : MO n₀ w B st) (hb : Below w.heap.size w w') : MO n₀ w' B st :=
  h.turned (n₁ := 0) (ts := []) (Turned.of_below hb) (by simp) (by simp) (by simp)
theorem Turned.own {n₀ : Nat} {w w' : World} {ts : List TypeId} (h : Turned (STy n₀ ts w) w w') (hn : n₀ ≤ w.heap.size) : Below n₀ w w' := h.below n₀ hn (fun _ hk => hk.1)

theorem new_o (n₀ : Nat) (w : World) (hn : n₀ ≤ w.heap.size) : Calls Try.prog 24 #[] w fun e w' => e = .returned (.pointer (some ⟨w.heap.size + 1, 0, none⟩)) ∧ TO n₀ w' (w.heap.size + 1) [⟨0, 1, false⟩] ∧ Below w.heap.size w w' :=
  (new_c w).mono fun e w' ⟨h1, h2, h3, _⟩ => ⟨h1, ⟨inv_new, by omega, _, hn, h2⟩, h3⟩
theorem add_o {n₀ : Nat} {w : World} {B : Nat} {st : List Nd} {p : Int} (st' : List Nd) (i c : Nat) (h : TO n₀ w B st) (e : addF st p.toNat = (st', i, c)) :
    Calls Try.prog 26 #[.pointer (some ⟨B, 0, none⟩), .int .i64 p] w fun e w' => e = .returned (.tuple #[.int .i64 (i : Int), .int .i64 (c : Int)]) ∧ TO n₀ w' B st' ∧ Turned (STy n₀ TTy w) w w' := by
  have hn := h.lt
  obtain ⟨hi, hB, R, hR, ha⟩ := h
  obtain ⟨⟨c1, f1, e1⟩, ⟨c2, f2, e2⟩⟩ := ha.types
  have hi' := inv_add hi p.toNat
  refine (add_c B R st p w ha hi).mono ?_
  rw [e] at hi' ⊢
  rintro x w' ⟨rfl, R', ha', hR', ht⟩
  refine ⟨rfl, ⟨hi', hB, R', by omega, ha'⟩, ht.mono ?_⟩
  rintro k (rfl | rfl)
  · exact ⟨hB, _, _, _, e1, by simp [TTy]⟩
  · exact ⟨hR, _, _, _, e2, by simp [TTy]⟩
theorem off_o {n₀ : Nat} {w : World} {B : Nat} {st : List Nd} {g : Int} (st' : List Nd) (c : Nat) (h : TO n₀ w B st) (e : offF st g.toNat = (st', c)) :
    Calls Try.prog 28 #[.pointer (some ⟨B, 0, none⟩), .int .i64 g] w fun e w' => e = .returned (.int .i64 (c : Int)) ∧ TO n₀ w' B st' ∧ Turned (STy n₀ TTy w) w w' := by
  obtain ⟨hi, hB, R, hR, ha⟩ := h
  obtain ⟨⟨c1, f1, e1⟩, ⟨c2, f2, e2⟩⟩ := ha.types
  have hi' := inv_off hi g.toNat
  refine (off_c B R st g w ha hi).mono ?_
  rw [e] at hi' ⊢
  rintro x w' ⟨rfl, ha', ht⟩
  refine ⟨rfl, ⟨hi', hB, R, hR, ha'⟩, ht.mono ?_⟩
  rintro k rfl
  exact ⟨hR, _, _, _, e2, by simp [TTy]⟩
theorem parent_o {n₀ : Nat} {w : World} {B : Nat} {st : List Nd} {g : Int} (x : Nat) (h : TO n₀ w B st) (e : (nd st g.toNat).parent = x) :
    Calls Try.prog 36 #[.pointer (some ⟨B, 0, none⟩), .int .i64 g] w fun e w' => e = .returned (.int .i64 (x : Int)) ∧ w = w' := by
  subst e; obtain ⟨R, hr⟩ := h.rd; exact parent_c B R _ st g w hr h.1
theorem depth_o {n₀ : Nat} {w : World} {B : Nat} {st : List Nd} {g : Int} (x : Nat) (h : TO n₀ w B st) (e : (nd st g.toNat).depth = x) :
    Calls Try.prog 35 #[.pointer (some ⟨B, 0, none⟩), .int .i64 g] w fun e w' => e = .returned (.int .i64 (x : Int)) ∧ w = w' := by
  subst e; obtain ⟨R, hr⟩ := h.rd; exact depth_c B R _ st g w hr h.1
theorem online_o {n₀ : Nat} {w : World} {B : Nat} {st : List Nd} {g : Int} (x : Bool) (h : TO n₀ w B st) (e : (!(nd st g.toNat).off) = x) :
    Calls Try.prog 39 #[.pointer (some ⟨B, 0, none⟩), .int .i64 g] w fun e w' => e = .returned (.bool x) ∧ w = w' := by
  subst e; obtain ⟨R, hr⟩ := h.rd; exact online_c B R _ st g w hr h.1
theorem many_o {n₀ : Nat} {w : World} {B : Nat} {st : List Nd} (x : Nat) (h : TO n₀ w B st) (e : st.length = x) :
    Calls Try.prog 33 #[.pointer (some ⟨B, 0, none⟩)] w fun e w' => e = .returned (.int .i64 (x : Int)) ∧ w = w' := by
  subst e; obtain ⟨R, hr⟩ := h.rd; exact many_c B R _ st w hr h.1
theorem heir_o {n₀ : Nat} {w : World} {B : Nat} {st : List Nd} {g : Int} (x : Nat) (h : TO n₀ w B st) (e : heirF st g.toNat = x) :
    Calls Try.prog 38 #[.pointer (some ⟨B, 0, none⟩), .int .i64 g] w fun e w' => e = .returned (.int .i64 (x : Int)) ∧ Below w.heap.size w w' := by
  subst e; obtain ⟨R, hr⟩ := h.rd; exact heir_c B R _ st g w hr h.1
theorem below_o {n₀ : Nat} {w : World} {B : Nat} {st : List Nd} {g top : Int} (x : Bool) (h : TO n₀ w B st) (e : belowF st g.toNat top = x) :
    Calls Try.prog 37 #[.pointer (some ⟨B, 0, none⟩), .int .i64 g, .int .i64 top] w fun e w' => e = .returned (.bool x) ∧ Below w.heap.size w w' := by
  subst e; obtain ⟨R, hr⟩ := h.rd; exact below_c B R _ st g top w hr h.1
theorem path_o {n₀ : Nat} {w : World} {B : Nat} {st : List Nd} {g : Int} (xs : List Nat) (n : Nat) (h : TO n₀ w B st) (e : path st g.toNat = xs) (hn : xs.length = n) :
    Calls Try.prog 34 #[.pointer (some ⟨B, 0, none⟩), .int .i64 g] w fun e w' => ∃ a cap, e = .returned (.slice a n cap) ∧ NumAt w' a n xs ∧ w'.ownsRow w.heap.size 3 1 (.slice a n cap) n (xs.map encI) ∧ Below w.heap.size w w' := by
  subst e; subst hn; obtain ⟨R, hr⟩ := h.rd
  refine (path_c B R _ st g w hr h.1).mono ?_
  rintro e w' ⟨v, rfl, hrow, hb⟩
  have hrow' : w'.ownsRow w.heap.size 3 1 v (path st g.toNat).length ((path st g.toNat).map encI) := hrow
  obtain ⟨a, cap, rfl, hc⟩ := ints_of_owns hrow' rfl
  exact ⟨a, cap, rfl, hc, hrow', hb⟩

theorem rnew_o (n₀ : Nat) (w : World) (hn : n₀ ≤ w.heap.size) : Calls Try.prog 25 #[] w fun e w' => e = .returned (.pointer (some ⟨w.heap.size + 2, 0, none⟩)) ∧ MO n₀ w' (w.heap.size + 2) [⟨0, 1, false⟩] ∧ Below w.heap.size w w' :=
  (rnew_c w).mono fun e w' ⟨h1, h2, h3⟩ => ⟨h1, ⟨inv_new, by omega, _, _, hn, by omega, h2⟩, h3⟩
theorem radd_o {n₀ : Nat} {w : World} {B : Nat} {st : List Nd} {p : Int} (st' : List Nd) (i c : Nat) (h : MO n₀ w B st) (e : addF st p.toNat = (st', i, c)) :
    Calls Try.prog 27 #[.pointer (some ⟨B, 0, none⟩), .int .i64 p] w fun e w' => e = .returned (.tuple #[.int .i64 (i : Int), .int .i64 (c : Int)]) ∧ MO n₀ w' B st' ∧ Turned (STy n₀ MTy w) w w' := by
  have hn := h.lt
  obtain ⟨hi, hB, U, O, hU, hO, ha⟩ := h
  obtain ⟨cu, co, e1, u, o⟩ := id ha
  obtain ⟨_, e2⟩ := owns_type u
  obtain ⟨_, e3⟩ := owns_type o
  have hi' := inv_add hi p.toNat
  refine (radd_c B U O st p w ha hi).mono ?_
  rw [e] at hi' ⊢
  rintro x w' ⟨rfl, U', O', ha', hU', hO', ht⟩
  refine ⟨rfl, ⟨hi', hB, U', O', by omega, by omega, ha'⟩, ht.mono ?_⟩
  rintro k (rfl | rfl | rfl)
  · exact ⟨hB, _, _, _, e1, by simp [MTy]⟩
  · exact ⟨hU, _, _, _, e2, by simp [MTy]⟩
  · exact ⟨hO, _, _, _, e3, by simp [MTy]⟩
theorem roff_o {n₀ : Nat} {w : World} {B : Nat} {st : List Nd} {g : Int} (st' : List Nd) (c : Nat) (h : MO n₀ w B st) (e : offF st g.toNat = (st', c)) :
    Calls Try.prog 29 #[.pointer (some ⟨B, 0, none⟩), .int .i64 g] w fun e w' => e = .returned (.int .i64 (c : Int)) ∧ MO n₀ w' B st' ∧ Turned (STy n₀ MTy w) w w' := by
  obtain ⟨hi, hB, U, O, hU, hO, ha⟩ := h
  obtain ⟨cu, co, e1, u, o⟩ := id ha
  obtain ⟨_, e3⟩ := owns_type o
  have hi' := inv_off hi g.toNat
  refine (roff_c B U O st g w ha hi).mono ?_
  rw [e] at hi' ⊢
  rintro x w' ⟨rfl, ha', ht⟩
  refine ⟨rfl, ⟨hi', hB, U, O, hU, hO, ha'⟩, ht.mono ?_⟩
  rintro k rfl
  exact ⟨hO, _, _, _, e3, by simp [MTy]⟩
theorem rparent_o {n₀ : Nat} {w : World} {B : Nat} {st : List Nd} {g : Int} (x : Nat) (h : MO n₀ w B st) (e : (nd st g.toNat).parent = x) :
    Calls Try.prog 48 #[.pointer (some ⟨B, 0, none⟩), .int .i64 g] w fun e w' => e = .returned (.int .i64 (x : Int)) ∧ w = w' := by
  subst e; obtain ⟨U, O, hr⟩ := h.rd; exact rparent_c B U O _ st g w hr h.1
theorem rdepth_o {n₀ : Nat} {w : World} {B : Nat} {st : List Nd} {g : Int} (x : Nat) (h : MO n₀ w B st) (e : (nd st g.toNat).depth = x) :
    Calls Try.prog 47 #[.pointer (some ⟨B, 0, none⟩), .int .i64 g] w fun e w' => e = .returned (.int .i64 (x : Int)) ∧ Below w.heap.size w w' := by
  subst e; obtain ⟨U, O, hr⟩ := h.rd; exact rdepth_c B U O _ st g w hr h.1
theorem ronline_o {n₀ : Nat} {w : World} {B : Nat} {st : List Nd} {g : Int} (x : Bool) (h : MO n₀ w B st) (e : (!(nd st g.toNat).off) = x) :
    Calls Try.prog 49 #[.pointer (some ⟨B, 0, none⟩), .int .i64 g] w fun e w' => e = .returned (.bool x) ∧ w = w' := by
  subst e; obtain ⟨U, O, hr⟩ := h.rd; exact ronline_c B U O _ st g w hr h.1
theorem rmany_o {n₀ : Nat} {w : World} {B : Nat} {st : List Nd} (x : Nat) (h : MO n₀ w B st) (e : st.length = x) :
    Calls Try.prog 46 #[.pointer (some ⟨B, 0, none⟩)] w fun e w' => e = .returned (.int .i64 (x : Int)) ∧ w = w' := by
  subst e; obtain ⟨U, O, hr⟩ := h.rd; exact rmany_c B U O _ st w hr h.1
theorem rheir_o {n₀ : Nat} {w : World} {B : Nat} {st : List Nd} {g : Int} (x : Nat) (h : MO n₀ w B st) (e : heirF st g.toNat = x) :
    Calls Try.prog 50 #[.pointer (some ⟨B, 0, none⟩), .int .i64 g] w fun e w' => e = .returned (.int .i64 (x : Int)) ∧ w = w' := by
  subst e; obtain ⟨U, O, hr⟩ := h.rd; exact rheir_c B U O _ st g w hr h.1
theorem rbelow_o {n₀ : Nat} {w : World} {B : Nat} {st : List Nd} {g top : Int} (x : Bool) (h : MO n₀ w B st) (e : belowF st g.toNat top = x) :
    Calls Try.prog 53 #[.pointer (some ⟨B, 0, none⟩), .int .i64 g, .int .i64 top] w fun e w' => e = .returned (.bool x) ∧ Below w.heap.size w w' := by
  subst e; obtain ⟨U, O, hr⟩ := h.rd; exact rbelow_c B U O _ st g top w hr h.1
theorem rpath_o {n₀ : Nat} {w : World} {B : Nat} {st : List Nd} {g : Int} (xs : List Nat) (n : Nat) (h : MO n₀ w B st) (e : path st g.toNat = xs) (hn : xs.length = n) :
    Calls Try.prog 52 #[.pointer (some ⟨B, 0, none⟩), .int .i64 g] w fun e w' => ∃ a cap, e = .returned (.slice a n cap) ∧ NumAt w' a n xs ∧ Below w.heap.size w w' := by
  subst e; subst hn; obtain ⟨U, O, hr⟩ := h.rd
  refine (rpath_c B U O _ st g w hr h.1).mono ?_
  rintro e w' ⟨v, rfl, hrow, hb⟩
  obtain ⟨a, cap, rfl, hc⟩ := ints_of_owns hrow rfl
  exact ⟨a, cap, rfl, hc, hb⟩
end Go.Proofs.Ytooonjoiidcmgaa
