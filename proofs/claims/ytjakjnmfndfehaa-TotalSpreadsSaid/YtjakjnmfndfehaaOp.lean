/- A list of words or of floats opened: what its cells hold and how long it may be. No condition. -/
import Derived.Test.YtjakjnmfndfehaaRows
import Derived.Test.YtjakjnmfndfehaaLaw
import Derived.Deep.Slices
import Derived.Deep.Fields
import Derived.ChangeSame
import Derived.Laws.Cover2
import Derived.SizedLaws
namespace Go.Pst
open Go Go.RowKit Go.ChangeShapes Go.WideShapes Go.ChangeAt Go.Joins Go.Deep
set_option linter.unusedSimpArgs false
set_option linter.unusedVariables false

/-- A slice of n cells: cell i holds V i. -/
def ListAt (w : World) (B : Nat) (A : Option Addr) (n : Nat) (V : Nat → Value) : Prop := 0 < n → ∃ b off, A = some ⟨b, off, none⟩ ∧ b < B ∧ ∀ i, i < n → w.cell? ⟨b, off + i, none⟩ = some (V i)

theorem ListAt.below {w w' : World} {B C : Nat} {A : Option Addr} {n : Nat} {V : Nat → Value} (h : ListAt w B A n V) (hb : Below C w w') (hBC : B ≤ C) : ListAt w' B A n V := fun hn => by
  obtain ⟨b, off, e, h1, h2⟩ := h hn
  exact ⟨b, off, e, h1, fun i hi => by rw [hb.cell (p := ⟨b, off + i, none⟩) (show b < C by omega)]; exact h2 i hi⟩
theorem ListAt.more {w : World} {B C : Nat} {A : Option Addr} {n : Nat} {V : Nat → Value} (h : ListAt w B A n V) (hBC : B ≤ C) : ListAt w C A n V := fun hn => by
  obtain ⟨b, off, e, h1, h2⟩ := h hn
  exact ⟨b, off, e, by omega, h2⟩

theorem addr_cells {w : World} {a : Addr} {n : Nat} {V : Nat → Value} (hn : 0 < n) (h : ∀ i, i < n → w.cell? (a.add i) = some (V i)) :
    ∃ b off, a = ⟨b, off, none⟩ ∧ b < w.heap.size ∧ ∀ i, i < n → w.cell? ⟨b, off + i, none⟩ = some (V i) := by
  obtain ⟨b, off, spot⟩ := a
  have h0 := h 0 hn
  have hs : spot = none := by simpa [Addr.add] using World.cell?_spot h0
  subst hs
  refine ⟨b, off, rfl, ?_, fun i hi => ?_⟩
  · have := World.block_lt_of_cell? w _ h0; simpa [Addr.add] using this
  · have := h i hi
    unfold Addr.add at this
    by_cases hi0 : i = 0
    · subst hi0; simpa using this
    · rw [if_neg hi0] at this; exact this

/-- What the datum of a list of n says of its length. -/
def SliceD {H : Type} (d : DataW H) (n : Nat) : Prop := n = 0 ∨ ∃ es sp, d = .slice es sp ∧ es.length = n

section
variable {H : Type} {enc : TypeId × Value → H} {P : Program} {w : World} {spare : Nat → Bool} {held : Bool}

theorem open_cells {r : Reach} {b0 : Nat} {t e : TypeId} {v : Value} {d : DataW H} {p : List MemPlace} (ht : P.underlying t = some (.slice e)) (hc : P.cellsOf e = 1)
    (hv : Value.okWide P w r b0 t v) (h : DataW.Trod enc P w 0 spare held t v d p) :
    ∃ A n c V, v = .slice A n c ∧ SliceD d n ∧ ListAt w w.heap.size A n V ∧ ∀ i, i < n → ∃ fu D, DataW.trod enc P w 0 spare held fu e [V i] = some D := by
  obtain ⟨a, len, cap, rfl⟩ := okWide_slice ht hv
  obtain ⟨fuel, hf0⟩ := h
  have hf : DataW.trod enc P w 0 spare held fuel t [.slice a len cap] = some (d, p) := hf0
  rcases open_slice1 ht hc hf with ⟨h1, h2⟩ | ⟨a, len, cap, m, k, V, D, Pl, h1, _, hl, hm, hmm, h2, hall⟩
  · simp only [List.cons.injEq, and_true] at h1
    exact ⟨_, _, _, fun _ => undef, h1, .inl rfl, fun h => by omega, fun i hi => by omega⟩
  · simp only [List.cons.injEq, and_true] at h1
    have hle : len ≤ m := by rw [hmm]; split <;> omega
    simp only [Prod.mk.injEq] at h2
    refine ⟨_, _, _, V, h1, .inr ⟨_, _, h2.1, by simp⟩, fun hn => ?_, fun i hi => ⟨_, _, (hall i (by omega)).2⟩⟩
    obtain ⟨b, off, rfl, hlt, hcell⟩ := addr_cells (V := V) hn (fun i hi => (hall i (by omega)).1)
    exact ⟨b, off, rfl, hlt, hcell⟩

theorem ListAt.congr {w : World} {B : Nat} {A : Option Addr} {n : Nat} {V V' : Nat → Value} (h : ListAt w B A n V) (hv : ∀ i, i < n → V i = V' i) : ListAt w B A n V' := fun hn => by
  obtain ⟨b, off, e, h1, h2⟩ := h hn
  exact ⟨b, off, e, h1, fun i hi => by rw [h2 i hi, hv i hi]⟩

theorem open_words {r : Reach} {b0 : Nat} {t e : TypeId} {v : Value} {d : DataW H} {p : List MemPlace} (ht : P.underlying t = some (.slice e)) (he : P.underlying e = some (.int .u64)) (hc : P.cellsOf e = 1)
    (hv : Value.okWide P w r b0 t v) (h : DataW.Trod enc P w 0 spare held t v d p) :
    ∃ (A : Option Addr) (n c : Nat) (y : Nat → Nat), v = .slice A n c ∧ SliceD d n ∧ ListAt w w.heap.size A n (fun i => .int .u64 ((y i : Nat) : Int)) ∧ ∀ i, i < n → y i < 2 ^ 64 := by
  obtain ⟨A, n, c, V, h1, h2, h3, h4⟩ := open_cells ht hc hv h
  have hz : ∀ i, ∃ z : Nat, i < n → V i = .int .u64 z ∧ z < 2 ^ 64 := fun i => by
    by_cases hi : i < n
    · obtain ⟨fu, D, hD⟩ := h4 i hi
      obtain ⟨m, e1, _, e2⟩ := DataW.trod_int he hD
      simp only [List.cons.injEq, and_true] at e1
      obtain ⟨k, rfl, hk⟩ := wf_u64 e2
      exact ⟨k, fun _ => ⟨e1, hk⟩⟩
    · exact ⟨0, fun h => absurd h hi⟩
  obtain ⟨y, hy⟩ := Classical.axiomOfChoice hz
  exact ⟨A, n, c, y, h1, h2, h3.congr fun i hi => (hy i hi).1, fun i hi => (hy i hi).2⟩

theorem float_cell {t : TypeId} {k : FloatKind} {fuel : Nat} {cs : List Value} {x : DataW H × List MemPlace} {base : Nat} (ht : P.underlying t = some (.float k)) (h : DataW.trod enc P w base spare held fuel t cs = some x) :
    ∃ b, cs = [.float k b] ∧ (Lit.float k b).wf = true := by
  cases fuel with
  | zero => simp [DataW.trod] at h
  | succ n =>
    unfold DataW.trod at h
    rw [ht] at h
    split at h <;> simp_all

theorem open_floats {r : Reach} {b0 : Nat} {t e : TypeId} {k : FloatKind} {v : Value} {d : DataW H} {p : List MemPlace} (ht : P.underlying t = some (.slice e)) (he : P.underlying e = some (.float k)) (hc : P.cellsOf e = 1)
    (hv : Value.okWide P w r b0 t v) (h : DataW.Trod enc P w 0 spare held t v d p) :
    ∃ (A : Option Addr) (n c : Nat) (y : Nat → Nat), v = .slice A n c ∧ SliceD d n ∧ ListAt w w.heap.size A n (fun i => .float k (y i)) ∧ ∀ i, i < n → (Lit.float k (y i)).wf = true := by
  obtain ⟨A, n, c, V, h1, h2, h3, h4⟩ := open_cells ht hc hv h
  have hz : ∀ i, ∃ z : Nat, i < n → V i = .float k z ∧ (Lit.float k z).wf = true := fun i => by
    by_cases hi : i < n
    · obtain ⟨fu, D, hD⟩ := h4 i hi
      obtain ⟨m, e1, e2⟩ := float_cell he hD
      simp only [List.cons.injEq, and_true] at e1
      exact ⟨m, fun _ => ⟨e1, e2⟩⟩
    · exact ⟨0, fun h => absurd h hi⟩
  obtain ⟨y, hy⟩ := Classical.axiomOfChoice hz
  exact ⟨A, n, c, y, h1, h2, h3.congr fun i hi => (hy i hi).1, fun i hi => (hy i hi).2⟩

/-- How long a list that is read may be. -/
theorem sized_list {ts : List TypeId} {ds : List (DataW H)} (h : (DataW.weightsEach P ts ds).all (· ≤ reachBytes) = true) {j : Nat} {t e : TypeId} {d : DataW H} {n : Nat} (ht : ts[j]? = some t) (hd : ds[j]? = some d) (hu : P.underlying t = some (.slice e)) (hs : SliceD d n) :
    n * P.bytesOf e ≤ reachBytes := by
  rcases hs with rfl | ⟨es, sp, rfl, rfl⟩
  · simp
  · exact Nat.le_trans (Nat.mul_le_mul_right _ (Nat.le_add_right _ _)) (sized_slice h ht hd hu)
end
end Go.Pst
