/- As XReg, with a bound on the floats that are no numbers: a region of operations whose order is left open, walked once in the order of the text: each operation gives one value (a NaN stands for every NaN in the slots of S), keeps what is known of the memory (K) and adds a fact of its own (Phi). No condition. -/
import Derived.Still
import Derived.WalkKit
import Derived.StillTailTactics
import Derived.Test.YtkhdemaanakbeaaReg
namespace Go.Reg2
open Go

/-- The same value; but a float that is no number stands for each such of 64 bits. -/
def Veq (u v : Value) : Prop := u = v ∨ ∃ k x y, u = .float k x ∧ v = .float k y ∧ (k.format.read x).isNaN = true ∧ (k.format.read y).isNaN = true ∧ x < 2 ^ 64

theorem Veq.refl (u : Value) : Veq u u := .inl rfl
theorem Veq.of_float {k : FloatKind} {u : Value} {y : Nat} (h : Veq u (.float k y)) : ∃ x, u = .float k x ∧ (x = y ∨ ((k.format.read x).isNaN = true ∧ (k.format.read y).isNaN = true ∧ x < 2 ^ 64)) := by
  rcases h with rfl | ⟨k', x, y', rfl, e, h1, h2, h3⟩
  · exact ⟨y, rfl, .inl rfl⟩
  · cases e; exact ⟨x, rfl, .inr ⟨h1, h2, h3⟩⟩
theorem Veq.bool_iff {u v : Value} (h : Veq u v) (b : Bool) : u = .bool b ↔ v = .bool b := by
  rcases h with rfl | ⟨k, x, y, rfl, rfl, _, _⟩
  · exact Iff.rfl
  · constructor <;> intro h <;> cases h

structure Spec where
  K : World → Prop
  Phi : Nat → World → Prop
  S : Tmp → Bool

namespace Spec
variable (s : Spec)

def keep (w w' : World) : Prop := s.K w' ∧ ∀ j, s.Phi j w → s.Phi j w'
def like (dst : Option Tmp) (u v : Value) : Prop := ∀ d, dst = some d → (s.S d = true → Veq u v) ∧ (s.S d = false → u = v)

structure Near (a' a : Act) : Prop where
  defers : a'.defers = a.defers
  size : a'.tmps.size = a.tmps.size
  slot : ∀ i, (s.S i = true → Veq (a'.tmps.getD i undef) (a.tmps.getD i undef)) ∧ (s.S i = false → a'.tmps.getD i undef = a.tmps.getD i undef)

def okUpon (P : Program) (w : World) (k : Nat) (dst : Option Tmp) (v : Value) : Result Next → Prop
  | .ok (.value u) w' => s.like dst u v ∧ s.keep w w' ∧ s.Phi k w'
  | .ok .skip w' => s.like dst undef v ∧ s.keep w w' ∧ s.Phi k w'
  | .ok (.enter f args) w' => Calls P f args w' fun e w'' => ∃ u, e = .returned u ∧ s.like dst u v ∧ s.keep w w'' ∧ s.Phi k w''
  | _ => False

def okAt (P : Program) (k : Nat) (o : Oper) (a : Act) (v : Value) : Prop :=
  ∀ a', s.Near a' a → ∀ w, s.K w → s.okUpon P w k o.dst v ((execOp a'.eval o).run P w)

def final (Q : Exit → Act → World → Prop) (a : Act) (done : Nat → Prop) : Prop :=
  ∀ a', s.Near a' a → ∀ w', s.K w' → (∀ j, done j → s.Phi j w') → Q .normal a' w'

def qOp (P : Program) (ops : Array Oper) (i : Nat) (Kt : Act → (Nat → Prop) → Prop) (a : Act) (done : Nat → Prop) : Prop :=
  match ops[i]? with
  | none => Kt a done
  | some o => if Region.wanted o (yielded ops a.tmps) then ∃ v, s.okAt P i o a v ∧ Kt (a.put o.dst v) (fun j => j = i ∨ done j) else Kt (a.put o.dst undef) done

def anyF (P : Program) (md : Region.Mode) (ops : Array Oper) (Q : Exit → Act → World → Prop) : Nat → Array Bool → Act → (Nat → Prop) → Prop
  | 0, listed, a, done => Region.ready md ops listed = [] ∧ s.final Q a done
  | fuel + 1, listed, a, done =>
    (Region.ready md ops listed = [] → s.final Q a done) ∧
    ∀ i ∈ Region.ready md ops listed, s.qOp P ops i (fun a done => anyF P md ops Q fuel (listed.setIfInBounds i true) a done) a done

/-- The walk in the order of the text. -/
def lex (P : Program) (ops : Array Oper) (Q : Exit → Act → World → Prop) : Nat → List Oper → Act → (Nat → Prop) → Prop
  | _, [], a, done => s.final Q a done
  | k, o :: rest, a, done =>
    if Region.wanted o (yielded ops a.tmps) then ∃ v, s.okAt P k o a v ∧ lex P ops Q (k + 1) rest (a.put o.dst v) (fun j => j = k ∨ done j)
    else lex P ops Q (k + 1) rest (a.put o.dst undef) done
end Spec

variable {s : Spec} {P : Program} {ops : Array Oper} {md : Region.Mode} {Q : Exit → Act → World → Prop}

theorem getD_set (xs : Array Value) (d i : Nat) (v : Value) : (xs.setIfInBounds d v).getD i undef = if i = d ∧ d < xs.size then v else xs.getD i undef := by
  simp only [Array.getD_eq_getD_getElem?, Array.getElem?_setIfInBounds]
  by_cases h : d = i
  · subst h
    by_cases h2 : d < xs.size
    · simp [h2]
    · simp [h2]
  · have h' : ¬ i = d := fun e => h e.symm
    simp [h, h']

theorem Spec.Near.refl (a : Act) : s.Near a a := ⟨rfl, rfl, fun _ => ⟨fun _ => Veq.refl _, fun _ => rfl⟩⟩

theorem Spec.Near.put {a' a : Act} (h : s.Near a' a) {dst : Option Tmp} {u v : Value} (hv : s.like dst u v) : s.Near (a'.put dst u) (a.put dst v) := by
  cases dst with
  | none => exact h
  | some d =>
    refine ⟨h.defers, by simp [Act.put, h.size], fun i => ?_⟩
    simp only [Act.put, getD_set, h.size]
    by_cases hi : i = d ∧ d < a.tmps.size
    · rw [if_pos hi, if_pos hi, hi.1]; exact hv d rfl
    · rw [if_neg hi, if_neg hi]; exact h.slot i

/-- A slot given back as it was. -/
theorem Spec.Near.unput {a'' a : Act} {dst : Option Tmp} {v : Value} (h : s.Near a'' (a.put dst v)) :
    ∃ u, s.Near (a''.put dst u) a := by
  cases dst with
  | none => exact ⟨v, h⟩
  | some d =>
    refine ⟨a.tmps.getD d undef, h.defers, by simpa [Act.put] using h.size, fun i => ?_⟩
    have hsz : a''.tmps.size = a.tmps.size := by simpa [Act.put] using h.size
    have hs := h.slot i
    simp only [Act.put, getD_set, hsz] at hs ⊢
    by_cases hi : i = d ∧ d < a.tmps.size
    · rw [if_pos hi, hi.1]; exact ⟨fun _ => Veq.refl _, fun _ => rfl⟩
    · rw [if_neg hi] at hs ⊢; exact hs

theorem yielded_near {a' a : Act} (h : s.Near a' a) (g : Nat) : yielded ops a'.tmps g = yielded ops a.tmps g := by
  unfold yielded
  cases ht : (ops[g]?).bind (·.dst) with
  | none => rfl
  | some t =>
    simp only [Option.bind_some]
    have hv : Veq (a'.tmps.getD t undef) (a.tmps.getD t undef) := by
      cases hS : s.S t with
      | true => exact (h.slot t).1 hS
      | false => rw [(h.slot t).2 hS]; exact Veq.refl _
    rcases Nat.lt_or_ge t a.tmps.size with hlt | hge
    · have hlt' : t < a'.tmps.size := by rw [h.size]; exact hlt
      simp only [Array.getD_eq_getD_getElem?, Array.getElem?_eq_getElem hlt, Array.getElem?_eq_getElem hlt', Option.getD_some] at hv ⊢
      have hb := hv.bool_iff
      generalize a'.tmps[t] = x at *
      generalize a.tmps[t] = y at *
      by_cases hx : ∃ b, y = .bool b
      · obtain ⟨b, rfl⟩ := hx
        rw [(hb b).2 rfl]
      · have h1 : ∀ b, y ≠ .bool b := fun b e => hx ⟨b, e⟩
        have h2 : ∀ b, x ≠ .bool b := fun b e => hx ⟨b, (hb b).1 e⟩
        cases x <;> cases y <;> first | rfl | (exact absurd rfl (h1 _)) | (exact absurd rfl (h2 _))
    · have hge' : a'.tmps.size ≤ t := by rw [h.size]; exact hge
      rw [Array.getElem?_eq_none hge, Array.getElem?_eq_none hge']

theorem wanted_near {a' a : Act} (h : s.Near a' a) (o : Oper) : Region.wanted o (yielded ops a'.tmps) = Region.wanted o (yielded ops a.tmps) := by
  unfold Region.wanted
  cases hg : o.guard with
  | none => rfl
  | some gw => obtain ⟨g, want⟩ := gw; simp only [yielded_near h g]

theorem qOp_mono {i : Nat} {a : Act} {done : Nat → Prop} {Kt Kt' : Act → (Nat → Prop) → Prop} (h : ∀ a d, Kt a d → Kt' a d) (hh : s.qOp P ops i Kt a done) : s.qOp P ops i Kt' a done := by
  unfold Spec.qOp at *
  split
  · exact h _ _ (by simpa [*] using hh)
  · rename_i o ho
    simp only [ho] at hh
    split
    · rename_i hw; simp only [hw, if_true] at hh; obtain ⟨v, h1, h2⟩ := hh; exact ⟨v, h1, h _ _ h2⟩
    · rename_i hw; simp only [hw] at hh; exact h _ _ hh

/-- From any frame near, any world of the class with the facts that are there. -/
theorem wpOp_of_qOp {i : Nat} {a a' : Act} {w : World} {done : Nat → Prop} {Kt : Act → (Nat → Prop) → Prop} {K' : Act → World → Prop}
    (hn : s.Near a' a) (hK : s.K w) (hd : ∀ j, done j → s.Phi j w)
    (h : ∀ a a' w d, s.Near a' a → s.K w → (∀ j, d j → s.Phi j w) → Kt a d → K' a' w) (hh : s.qOp P ops i Kt a done) : wpOp P ops Q i K' a' w := by
  unfold Spec.qOp at hh
  unfold wpOp
  cases ho : ops[i]? with
  | none => simp only [ho] at hh; exact h _ _ _ _ hn hK hd hh
  | some o =>
    simp only [ho] at hh ⊢
    rw [wanted_near hn]
    split
    · rename_i hw
      simp only [hw, if_true] at hh
      obtain ⟨v, hv, hk⟩ := hh
      refine .inl ?_
      have h3 := hv a' hn w hK
      unfold Oper.wp
      have fin : ∀ u w', s.like o.dst u v → s.keep w w' → s.Phi i w' → K' (a'.put o.dst u) w' := fun u w' h1 h2 h4 => by
        refine h _ _ _ _ (hn.put h1) h2.1 ?_ hk
        rintro j (rfl | hj)
        · exact h4
        · exact h2.2 j (hd j hj)
      generalize (execOp a'.eval o).run P w = r at *
      cases r with
      | ok n w' =>
        cases n <;> simp only [Spec.okUpon] at h3 <;> simp only [Oper.upon]
        case value u => exact fin u w' h3.1 h3.2.1 h3.2.2
        case skip => exact fin undef w' h3.1 h3.2.1 h3.2.2
        case enter f args => exact h3.mono fun e w'' ⟨u, he, h1, h2, h4⟩ => by subst he; exact fin u w'' h1 h2 h4
      | halt x w' => simp only [Spec.okUpon] at h3
    · rename_i hw
      simp only [hw] at hh
      exact h _ _ _ _ (hn.put (fun d _ => ⟨fun _ => Veq.refl _, fun _ => rfl⟩)) hK hd hh

theorem wpAny_of_anyF : ∀ (fuel : Nat) (listed : Array Bool) (a a' : Act) (w : World) (done : Nat → Prop), s.Near a' a → s.K w → (∀ j, done j → s.Phi j w) →
    s.anyF P md ops Q fuel listed a done → wpAny P md ops Q fuel listed a' w
  | 0, _, _, _, _, _, hn, hK, hd, h => ⟨h.1, h.2 _ hn _ hK hd⟩
  | fuel + 1, _, _, _, _, _, hn, hK, hd, h => ⟨fun h0 => h.1 h0 _ hn _ hK hd, fun i hi =>
      wpOp_of_qOp hn hK hd (fun a a' w d hn hK hd hk => wpAny_of_anyF fuel _ a a' w d hn hK hd hk) (h.2 i hi)⟩

theorem okAt_of_same {i : Nat} {o : Oper} {v : Value} {a : Act} {dst : Option Tmp} {u : Value} (hsel : ∀ cs b, o.op ≠ .select cs b)
    (hl : ∀ d, dst = some d → d ∉ o.looksAt ops) (hy : s.okAt P i o a v) : s.okAt P i o (a.put dst u) v := fun a'' hn w hK => by
  obtain ⟨x, hx⟩ := hn.unput
  have := hy _ hx w hK
  rwa [execOp_put o hsel a'' dst x hl] at this

theorem okAt_put {j : Nat} {oj : Oper} {v u : Value} {a : Act} {dst : Option Tmp} (hsel : ∀ cs b, oj.op ≠ .select cs b)
    (hl : ∀ d, dst = some d → d ∉ oj.looksAt ops) (hy : s.okAt P j oj (a.put dst v) u) : s.okAt P j oj a u := fun a' hn w hK => by
  have := hy _ (hn.put (dst := dst) (u := v) (v := v) (fun d _ => ⟨fun _ => Veq.refl _, fun _ => rfl⟩)) w hK
  rwa [execOp_put oj hsel a' dst v hl] at this

/-- Operation 'o', number i, would give v in the frame a; or it is passed over. -/
def Gives (s : Spec) (P : Program) (ops : Array Oper) (i : Nat) (o : Oper) (v : Value) (a : Act) : Prop :=
  (Region.wanted o (yielded ops a.tmps) = true ∧ s.okAt P i o a v) ∨ (Region.wanted o (yielded ops a.tmps) = false ∧ v = undef)

/-- What is done when it has come up. -/
def doneBy (ops : Array Oper) (i : Nat) (o : Oper) (a : Act) (done : Nat → Prop) : Nat → Prop := if Region.wanted o (yielded ops a.tmps) = true then fun j => j = i ∨ done j else done

theorem Gives.qOp {i : Nat} {o : Oper} {v : Value} {a : Act} {done : Nat → Prop} (hi : ops[i]? = some o) (hy : Gives s P ops i o v a) {Kt : Act → (Nat → Prop) → Prop}
    (h : Kt (a.put o.dst v) (doneBy ops i o a done)) : s.qOp P ops i Kt a done := by
  unfold Spec.qOp
  simp only [hi]
  unfold doneBy at h
  rcases hy with ⟨hw, hv⟩ | ⟨hw, rfl⟩
  · simp only [hw, if_true] at h ⊢; exact ⟨v, hv, h⟩
  · simp only [hw, Bool.false_eq_true, if_false] at h ⊢; exact h

theorem gives_of_qOp {i : Nat} {o : Oper} {a : Act} {done : Nat → Prop} {Kt : Act → (Nat → Prop) → Prop} (hi : ops[i]? = some o) (h : s.qOp P ops i Kt a done) :
    ∃ v, Gives s P ops i o v a ∧ Kt (a.put o.dst v) (doneBy ops i o a done) := by
  unfold Spec.qOp at h
  simp only [hi] at h
  unfold doneBy
  by_cases hw : Region.wanted o (yielded ops a.tmps) = true
  · simp only [hw, if_true] at h ⊢
    obtain ⟨v, h1, h2⟩ := h
    exact ⟨v, .inl ⟨hw, h1⟩, h2⟩
  · simp only [hw] at h ⊢
    exact ⟨undef, .inr ⟨by simpa using hw, rfl⟩, h⟩

theorem Gives.put {i : Nat} {o : Oper} {v u : Value} {a : Act} {dst : Option Tmp} (hsel : ∀ cs b, o.op ≠ .select cs b)
    (hl : ∀ d, dst = some d → d ∉ o.looksAt ops) (hy : Gives s P ops i o v a) : Gives s P ops i o v (a.put dst u) := by
  unfold Gives at *
  rw [wanted_put o a dst u hl]
  exact hy.imp (fun h => ⟨h.1, okAt_of_same hsel hl h.2⟩) id

theorem Gives.unput {j : Nat} {o : Oper} {v u : Value} {a : Act} {dst : Option Tmp} (hsel : ∀ cs b, o.op ≠ .select cs b)
    (hl : ∀ d, dst = some d → d ∉ o.looksAt ops) (hy : Gives s P ops j o u (a.put dst v)) : Gives s P ops j o u a := by
  unfold Gives at *
  rw [wanted_put o a dst v hl] at hy
  exact hy.imp (fun h => ⟨h.1, okAt_put hsel hl h.2⟩) id

theorem doneBy_put {i : Nat} {o : Oper} {a : Act} {dst : Option Tmp} {v : Value} (hl : ∀ d, dst = some d → d ∉ o.looksAt ops) (done : Nat → Prop) :
    doneBy ops i o (a.put dst v) done = doneBy ops i o a done := by
  unfold doneBy; rw [wanted_put o a dst v hl]

theorem doneBy_comm {i j : Nat} {oi oj : Oper} {a : Act} (done : Nat → Prop) : doneBy ops i oi a (doneBy ops j oj a done) = doneBy ops j oj a (doneBy ops i oi a done) := by
  unfold doneBy
  split <;> split <;> first | rfl | (funext x; apply propext; constructor <;> rintro (h | h | h) <;> simp [h])

theorem qOp_put {i j : Nat} {oi oj : Oper} {v : Value} (hj : ops[j]? = some oj) (hap : oi.apart ops oj = true)
    (hsi : ∀ cs b, oi.op ≠ .select cs b) (hsj : ∀ cs b, oj.op ≠ .select cs b) {Kt : Act → (Nat → Prop) → Prop} {a : Act} {done : Nat → Prop}
    (hy : Gives s P ops i oi v a) (h : s.qOp P ops j Kt (a.put oi.dst v) (doneBy ops i oi a done)) :
    s.qOp P ops j (fun a' d' => Gives s P ops i oi v a' ∧ Kt (a'.put oi.dst v) (doneBy ops i oi a' d')) a done := by
  obtain ⟨h1, h2, h3⟩ := Oper.apart_spec hap
  obtain ⟨u, hu, hk⟩ := gives_of_qOp hj h
  refine (hu.unput hsj h1).qOp hj ⟨hy.put hsi h3, ?_⟩
  rw [← Act.put_comm a v u h2]
  rw [doneBy_put h1, doneBy_comm] at hk
  rw [doneBy_put h3]
  exact hk

theorem anyF_first {i : Nat} {oi : Oper} {v : Value} (hi : ops[i]? = some oi) (hsel : ∀ (j : Nat) (o : Oper) cs b, ops[j]? = some o → o.op ≠ .select cs b) :
    ∀ (fuel : Nat) (listed : Array Bool) (a : Act) (done : Nat → Prop),
      (∀ j oj, ops[j]? = some oj → j ≠ i → listed.getD j true = false → (∀ e ∈ oj.after, Region.binds md e = true → e.on ≠ i) → oi.apart ops oj = true) →
      i ∈ Region.ready md ops listed → Gives s P ops i oi v a →
      s.anyF P md ops Q fuel (listed.setIfInBounds i true) (a.put oi.dst v) (doneBy ops i oi a done) → s.anyF P md ops Q (fuel + 1) listed a done := by
  intro fuel
  induction fuel with
  | zero =>
    intro listed a done _ hr hy H
    refine ⟨fun h => (by rw [h] at hr; cases hr), fun j hj => ?_⟩
    by_cases hji : j = i
    · subst hji; exact hy.qOp hi H
    · have := ready_mono hj hji
      rw [H.1] at this
      cases this
  | succ fuel ih =>
    intro listed a done hfree hr hy H
    refine ⟨fun h => (by rw [h] at hr; cases hr), fun j hj => ?_⟩
    by_cases hji : j = i
    · subst hji; exact hy.qOp hi H
    · have h1 := H.2 j (ready_mono hj hji)
      obtain ⟨hjun, oj, hoj, hall⟩ := mem_ready.1 hj
      have hnot : ∀ e ∈ oj.after, Region.binds md e = true → e.on ≠ i := fun e he hb heq => by
        have h1 := hall e he hb
        have h0 := (mem_ready.1 hr).1
        rw [heq] at h1
        rcases Nat.lt_or_ge i listed.size with h' | h'
        · simp [h'] at h0 h1; rw [h0] at h1; cases h1
        · simp [Array.getElem?_eq_none h'] at h1
      have h2 := qOp_put hoj (hfree j oj hoj hji hjun hnot) (fun cs b => hsel i oi cs b hi) (fun cs b => hsel j oj cs b hoj) hy h1
      have hfree' : ∀ k ok, ops[k]? = some ok → k ≠ i → (listed.setIfInBounds j true).getD k true = false →
          (∀ e ∈ ok.after, Region.binds md e = true → e.on ≠ i) → oi.apart ops ok = true := fun k ok hk hki hun hno => by
        refine hfree k ok hk hki ?_ hno
        by_cases hjk : j = k
        · subst hjk; exact hjun
        · rw [getD_set_ne true hjk] at hun; exact hun
      refine qOp_mono (fun a' d' h3 => ih (listed.setIfInBounds j true) a' d' hfree' (ready_mono hr (Ne.symm hji)) h3.1 ?_) h2
      rw [Array.setIfInBounds_comm _ _ hji]
      exact h3.2

theorem anyF_lex (hs : Region.noSelect ops = true) : ∀ (l : List Oper) (k : Nat) (listed : Array Bool) (a : Act) (done : Nat → Prop), (∀ j, l[j]? = ops[k + j]?) →
    Region.lexFrom md ops l.length k listed = true → s.lex P ops Q k l a done → s.anyF P md ops Q l.length listed a done
  | [], _, _, _, _, _, hB, h => ⟨by simpa [Region.lexFrom] using hB, h⟩
  | o :: l, k, listed, a, done, hl, hB, h => by
    have h0 : ops[k]? = some o := by simpa using (hl 0).symm
    simp only [List.length_cons, Region.lexFrom, Bool.and_eq_true] at hB
    obtain ⟨⟨hr, hf⟩, hB'⟩ := hB
    have hst : s.qOp P ops k (fun a d => s.lex P ops Q (k + 1) l a d) a done := by unfold Spec.qOp; simp only [h0]; exact h
    obtain ⟨v, hy, hK⟩ := gives_of_qOp h0 hst
    exact anyF_first h0 (Region.noSelect_spec hs) l.length listed a done (Region.free_spec h0 hf) (by simpa using hr) hy
      (anyF_lex hs l (k + 1) _ _ _ (fun j => by have := hl (j + 1); simpa [Nat.add_assoc, Nat.add_comm 1 j] using this) hB' hK)

/-- The walk, kept shut: tactics that look at a goal do not run it. -/
structure Spec.Lex (s : Spec) (P : Program) (ops : Array Oper) (Q : Exit → Act → World → Prop) (k : Nat) (l : List Oper) (a : Act) (done : Nat → Prop) : Prop where
  out : s.lex P ops Q k l a done

/-- **ONE WALK SERVES EVERY ORDER.** -/
theorem wp_region_lex {id : Nat} {a : Act} {w : World} {l : List Oper} (s : Spec) (hm : P.follows .mixedOrders = true) (hB : Region.lexB .any l.toArray = true) (hK : s.K w.drew)
    (h : s.Lex P l.toArray Q 0 l a (fun _ => False)) : (Code.region id l.toArray true).wp P Q a w := by
  simp only [Region.lexB, Bool.and_eq_true] at hB
  refine wp_region_any hm (wpAny_of_anyF (s := s) _ _ a a _ (fun _ => False) (Spec.Near.refl a) hK (fun _ h => h.elim) ?_)
  have := anyF_lex (s := s) (Q := Q) (md := .any) hB.1 l 0 (Array.replicate l.toArray.size false) a (fun _ => False) (by simp) (by simpa using hB.2) h.out
  simpa using this

/-! ### Regions that read, and call what makes memory of its own alone -/
open Go.RowKit

def rd (W : World) : Spec := ⟨fun w => Below W.heap.size W w, fun _ _ => True, fun _ => false⟩

theorem Spec.Near.eq {a' a : Act} (hS : ∀ i, s.S i = false) (h : s.Near a' a) : a' = a := by
  obtain ⟨t', d'⟩ := a'
  obtain ⟨t, d⟩ := a
  have hd : d' = d := h.defers
  have hs : t'.size = t.size := h.size
  have : t' = t := by
    apply Array.ext hs
    intro i h1 h2
    have := (h.slot i).2 (hS i)
    simpa [Array.getD_eq_getD_getElem?, h1, h2] using this
  rw [hd, this]

section
variable {W : World} {k : Nat} {o : Oper} {rest : List Oper} {a : Act} {d : Nat → Prop} {v : Value}

def rdUpon (P : Program) (w : World) (v : Value) : Result Next → Prop
  | .ok (.value u) w' => w' = w ∧ u = v
  | .ok (.enter f args) w' => w' = w ∧ Calls P f args w fun e w'' => e = .returned v ∧ Below w.heap.size w w''
  | _ => False

theorem rdUpon_value (P : Program) (w : World) (u v : Value) (w' : World) : rdUpon P w v (.ok (.value u) w') = (w' = w ∧ u = v) := rfl
theorem rdUpon_enter (P : Program) (w : World) (v : Value) (f : FuncId) (args : Array Value) (w' : World) : rdUpon P w v (.ok (.enter f args) w') = (w' = w ∧ Calls P f args w fun e w'' => e = .returned v ∧ Below w.heap.size w w'') := rfl
attribute [go_sem] rdUpon_value rdUpon_enter

theorem rd_cells {B : Nat} {W w : World} (h : Below B W w) : ∀ b o, b < B → w.cell? ⟨b, o, none⟩ = W.cell? ⟨b, o, none⟩ := fun b o hb => h.cell (p := ⟨b, o, none⟩) hb

theorem rd_size {B : Nat} {W w : World} (h : Below B W w) : W.heap.size ≤ w.heap.size := h.size

theorem rd_op (hw : Region.wanted o (yielded ops a.tmps) = true) (h : ∃ v, (∀ w, Below W.heap.size W w → rdUpon P w v ((execOp a.eval o).run P w)) ∧
    ∀ d a', a' = a.put o.dst v → (rd W).Lex P ops Q (k + 1) rest a' d) : (rd W).Lex P ops Q k (o :: rest) a d := by
  obtain ⟨v, h, hk⟩ := h
  refine ⟨?_⟩
  unfold Spec.lex
  rw [if_pos hw]
  refine ⟨v, fun a' hn w hK => ?_, (hk _ _ rfl).out⟩
  rw [hn.eq (fun _ => rfl)]
  have h1 := h w hK
  generalize (execOp a.eval o).run P w = r at *
  cases r with
  | ok n w' =>
    cases n <;> simp only [rdUpon] at h1 <;> simp only [Spec.okUpon]
    case value u => obtain ⟨rfl, rfl⟩ := h1; exact ⟨fun _ _ => ⟨fun _ => Veq.refl _, fun _ => rfl⟩, ⟨hK, fun _ h => h⟩, trivial⟩
    case enter f args =>
      obtain ⟨rfl, h1⟩ := h1
      exact h1.mono fun e w' ⟨he, hb⟩ => ⟨v, he, fun _ _ => ⟨fun _ => Veq.refl _, fun _ => rfl⟩, ⟨Below.trans hK (hb.mono hK.size), fun _ h => h⟩, trivial⟩
  | halt x w' => simp only [rdUpon] at h1

theorem rd_skip (hw : Region.wanted o (yielded ops a.tmps) = false) (hk : ∀ a', a' = a.put o.dst undef → (rd W).Lex P ops Q (k + 1) rest a' d) : (rd W).Lex P ops Q k (o :: rest) a d := by
  refine ⟨?_⟩
  unfold Spec.lex
  rw [if_neg (by rw [hw]; exact Bool.false_ne_true)]
  exact (hk _ rfl).out

theorem rd_end (h : ∀ w', Below W.heap.size W w' → Q .normal a w') : (rd W).Lex P ops Q k [] a d := ⟨fun a' hn w' hK _ => by
  rw [hn.eq (fun _ => rfl)]; exact h w' hK⟩
end

open Go Go.RowKit
set_option linter.unusedVariables false

theorem execOp_agree {a b : Act} (o : Oper) (hs : ∀ cs d, o.op ≠ .select cs d) (h : ∀ t, Operand.tmp t ∈ o.op.operands → a.tmps.getD t undef = b.tmps.getD t undef) :
    execOp a.eval o = execOp b.eval o := by
  refine execOp_congr o hs fun x hx => ?_
  cases x with
  | tmp t => exact h t hx
  | _ => rfl

/-- The operands of an operation that are known only so. -/
def hot (L : List Tmp) (o : Oper) : List Tmp := o.op.operands.toList.filterMap fun | .tmp t => if L.contains t then some t else none | _ => none
def hotD (L : List Tmp) (o : Oper) : Bool := match o.dst with | some d => L.contains d | none => false
def noSel (o : Oper) : Bool := match o.op with | .select .. => false | _ => true

theorem noSel_spec {o : Oper} (h : noSel o = true) : ∀ cs d, o.op ≠ .select cs d := fun cs d e => by unfold noSel at h; rw [e] at h; cases h

theorem hot_mem {L : List Tmp} {o : Oper} {t : Tmp} (h : Operand.tmp t ∈ o.op.operands) (ht : L.contains t = true) : t ∈ hot L o := by
  unfold hot
  refine List.mem_filterMap.2 ⟨.tmp t, by simpa using h, ?_⟩
  simp only [ht, if_true]

theorem getD_put (a : Act) (t i : Nat) (u : Value) : (a.put (some t) u).tmps.getD i undef = if i = t ∧ t < a.tmps.size then u else a.tmps.getD i undef := by
  simp only [Act.put]; exact getD_set _ _ _ _

theorem getD_ge (xs : Array Value) (t : Nat) (h : ¬ t < xs.size) : xs.getD t undef = undef := by
  simp [Array.getD_eq_getD_getElem?, Array.getElem?_eq_none (Nat.le_of_not_lt h)]

def rnUpon (P : Program) (w : World) (hd : Bool) (v : Value) : Result Next → Prop
  | .ok (.value u) w' => Below w.heap.size w w' ∧ (u = v ∨ (hd = true ∧ Veq u v))
  | .ok (.enter f args) w' => w' = w ∧ Calls P f args w fun e w'' => ∃ u, e = .returned u ∧ (u = v ∨ (hd = true ∧ Veq u v)) ∧ Below w.heap.size w w''
  | _ => False

/-- The class: below the first world's size the memory is as the first world has it. -/
def rn (W : World) (L : List Tmp) : Spec := ⟨fun w => Below W.heap.size W w, fun _ _ => True, fun d => L.contains d⟩

/-- The class: the same, but that one cell has been written or not, with a value that is known up to which no number it is. -/
def stored (W : World) (p : Addr) (v : Value) (w : World) : Prop := ∃ u, Veq u v ∧ Below W.heap.size (W.setCell p u) w
def sn (W : World) (L : List Tmp) (p : Addr) (v : Value) (n : Nat) : Spec :=
  ⟨fun w => Below W.heap.size W w ∨ stored W p v w, fun j w => j = n → stored W p v w, fun d => L.contains d⟩

structure Class (s : Spec) (L : List Tmp) : Prop where
  S : ∀ d, s.S d = L.contains d
  keep : ∀ w w', s.K w → Below w.heap.size w w' → s.keep w w'

section
variable {s : Spec} {L : List Tmp} {P : Program} {ops : Array Oper} {Q : Exit → Act → World → Prop} {W : World} {k : Nat} {o : Oper} {rest : List Oper} {a : Act} {d : Nat → Prop} {v : Value}

theorem rn_class : Class (rn W L) L := ⟨fun _ => rfl, fun _ _ hK hb => ⟨hK.trans (hb.mono hK.size), fun _ h => h⟩⟩

theorem stored_keep {p : Addr} {w w' : World} (h : stored W p v w) (hb : Below w.heap.size w w') : stored W p v w' := by
  obtain ⟨u, h1, h2⟩ := h
  exact ⟨u, h1, h2.trans (hb.mono (by simpa using h2.size))⟩

theorem sn_class {p : Addr} {n : Nat} : Class (sn W L p v n) L :=
  ⟨fun _ => rfl, fun _ _ hK hb => ⟨hK.imp (fun h => h.trans (hb.mono h.size)) (fun h => stored_keep h hb), fun _ h e => stored_keep (h e) hb⟩⟩

theorem okUpon_of_rn (hC : Class s L) {w : World} (hK : s.K w) (hph : ∀ w', s.K w' → s.Phi k w') {r : Result Next} (h : rnUpon P w (hotD L o) v r) : s.okUpon P w k o.dst v r := by
  have like : ∀ u, (u = v ∨ (hotD L o = true ∧ Veq u v)) → s.like o.dst u v := fun u hu dd hdd => by
    rcases hu with rfl | ⟨h1, h2⟩
    · exact ⟨fun _ => Veq.refl _, fun _ => rfl⟩
    · refine ⟨fun _ => h2, fun h3 => ?_⟩
      unfold hotD at h1; rw [hdd] at h1; simp only at h1
      rw [hC.S, h1] at h3; cases h3
  cases r with
  | ok n w' =>
    cases n <;> simp only [rnUpon] at h <;> simp only [Spec.okUpon]
    case value u =>
      have hk := hC.keep _ _ hK h.1
      exact ⟨like _ h.2, hk, hph _ hk.1⟩
    case enter f args =>
      obtain ⟨rfl, h1⟩ := h
      refine h1.mono fun e w'' ⟨u, he, h2, hb⟩ => ?_
      have hk := hC.keep _ _ hK hb
      exact ⟨u, he, like _ h2, hk, hph _ hk.1⟩
  | halt x w' => simp only [rnUpon] at h

/-- An operation whose operands are known. -/
theorem op0 (hC : Class s L) (hph : ∀ w', s.K w' → s.Phi k w') (hw : Region.wanted o (yielded ops a.tmps) = true) (hs : noSel o = true) (hh : hot L o = [])
    (h : ∃ v, (∀ w, s.K w → rnUpon P w (hotD L o) v ((execOp a.eval o).run P w)) ∧ ∀ a', a' = a.put o.dst v → s.Lex P ops Q (k + 1) rest a' (fun j => j = k ∨ d j)) : s.Lex P ops Q k (o :: rest) a d := by
  obtain ⟨v, h, hk⟩ := h
  refine ⟨?_⟩
  unfold Spec.lex
  rw [if_pos hw]
  refine ⟨v, fun a' hn w hK => ?_, (hk _ rfl).out⟩
  have e : execOp a'.eval o = execOp a.eval o := execOp_agree o (noSel_spec hs) fun t ht => (hn.slot t).2 (by
    rw [hC.S]
    cases hc : L.contains t
    · rfl
    · have := hot_mem ht hc; rw [hh] at this; cases this)
  rw [e]
  exact okUpon_of_rn hC hK hph (h w hK)

theorem rn_of_rd {w : World} {hd : Bool} {r : Result Next} (h : rdUpon P w v r) : rnUpon P w hd v r := by
  cases r with
  | ok n w' =>
    cases n <;> simp only [rdUpon] at h <;> simp only [rnUpon]
    case value u => obtain ⟨rfl, rfl⟩ := h; exact ⟨Below.refl _ _, .inl rfl⟩
    case enter f args => obtain ⟨rfl, h1⟩ := h; exact ⟨rfl, h1.mono fun e w'' ⟨he, hb⟩ => ⟨v, he, .inl rfl, hb⟩⟩
  | halt x w' => simp only [rdUpon] at h

theorem op0e (hC : Class s L) (hph : ∀ w', s.K w' → s.Phi k w') (hw : Region.wanted o (yielded ops a.tmps) = true) (hs : noSel o = true) (hh : hot L o = [])
    (h : ∃ v, (∀ w, s.K w → rdUpon P w v ((execOp a.eval o).run P w)) ∧ ∀ a', a' = a.put o.dst v → s.Lex P ops Q (k + 1) rest a' (fun j => j = k ∨ d j)) : s.Lex P ops Q k (o :: rest) a d := by
  obtain ⟨v, h, hk⟩ := h
  exact op0 hC hph hw hs hh ⟨v, fun w hK => rn_of_rd (h w hK), hk⟩

/-- An operation with one operand that is known only so. -/
theorem op1 (hC : Class s L) (hph : ∀ w', s.K w' → s.Phi k w') (hw : Region.wanted o (yielded ops a.tmps) = true) (hs : noSel o = true) (t1 : Tmp) (v1 : Value)
    (hh : hot L o = [t1]) (h1 : a.tmps.getD t1 undef = v1)
    (h : ∃ v, (∀ u1, Veq u1 v1 → ∀ w, s.K w → rnUpon P w (hotD L o) v ((execOp (a.put (some t1) u1).eval o).run P w)) ∧ ∀ a', a' = a.put o.dst v → s.Lex P ops Q (k + 1) rest a' (fun j => j = k ∨ d j)) :
    s.Lex P ops Q k (o :: rest) a d := by
  obtain ⟨v, h, hk⟩ := h
  refine ⟨?_⟩
  unfold Spec.lex
  rw [if_pos hw]
  refine ⟨v, fun a' hn w hK => ?_, (hk _ rfl).out⟩
  have hv : Veq (a'.tmps.getD t1 undef) v1 := by
    rw [← h1]
    cases hS : s.S t1
    · rw [(hn.slot t1).2 hS]; exact Veq.refl _
    · exact (hn.slot t1).1 hS
  have e : execOp a'.eval o = execOp (a.put (some t1) (a'.tmps.getD t1 undef)).eval o := execOp_agree o (noSel_spec hs) fun t ht => by
    rw [getD_put]
    by_cases ht1 : t = t1
    · subst ht1
      by_cases hsz : t < a.tmps.size
      · rw [if_pos ⟨rfl, hsz⟩]
      · rw [if_neg (by simp [hsz]), getD_ge _ _ hsz, getD_ge _ _ (by rw [hn.size]; exact hsz)]
    · rw [if_neg (by simp [ht1])]
      refine (hn.slot t).2 ?_
      rw [hC.S]
      cases hc : L.contains t
      · rfl
      · exact absurd (by have := hot_mem ht hc; rw [hh] at this; simpa using this) ht1
  rw [e]
  exact okUpon_of_rn hC hK hph (h _ hv w hK)

/-- An operation with two operands that are known only so. -/
theorem op2 (hC : Class s L) (hph : ∀ w', s.K w' → s.Phi k w') (hw : Region.wanted o (yielded ops a.tmps) = true) (hs : noSel o = true) (t1 t2 : Tmp) (v1 v2 : Value)
    (hh : hot L o = [t1, t2]) (h1 : a.tmps.getD t1 undef = v1) (h2 : a.tmps.getD t2 undef = v2)
    (h : ∃ v, (∀ u1 u2, Veq u1 v1 → Veq u2 v2 → ∀ w, s.K w → rnUpon P w (hotD L o) v ((execOp ((a.put (some t1) u1).put (some t2) u2).eval o).run P w)) ∧
      ∀ a', a' = a.put o.dst v → s.Lex P ops Q (k + 1) rest a' (fun j => j = k ∨ d j)) :
    s.Lex P ops Q k (o :: rest) a d := by
  obtain ⟨v, h, hk⟩ := h
  refine ⟨?_⟩
  unfold Spec.lex
  rw [if_pos hw]
  refine ⟨v, fun a' hn w hK => ?_, (hk _ rfl).out⟩
  have hv : ∀ t v, a.tmps.getD t undef = v → Veq (a'.tmps.getD t undef) v := fun t v ht => by
    rw [← ht]
    cases hS : s.S t
    · rw [(hn.slot t).2 hS]; exact Veq.refl _
    · exact (hn.slot t).1 hS
  have e : execOp a'.eval o = execOp ((a.put (some t1) (a'.tmps.getD t1 undef)).put (some t2) (a'.tmps.getD t2 undef)).eval o := execOp_agree o (noSel_spec hs) fun t ht => by
    have hsz2 : (a.put (some t1) (a'.tmps.getD t1 undef)).tmps.size = a.tmps.size := by simp [Act.put]
    rw [getD_put, getD_put, hsz2]
    by_cases ht2 : t = t2
    · subst ht2
      by_cases hsz : t < a.tmps.size
      · rw [if_pos ⟨rfl, hsz⟩]
      · rw [if_neg (by simp [hsz]), getD_ge a'.tmps _ (by rw [hn.size]; exact hsz)]
        by_cases ht1 : t = t1
        · rw [if_neg (by rw [← ht1]; simp [hsz]), getD_ge _ _ hsz]
        · rw [if_neg (by simp [ht1]), getD_ge _ _ hsz]
    · rw [if_neg (by simp [ht2])]
      by_cases ht1 : t = t1
      · subst ht1
        by_cases hsz : t < a.tmps.size
        · rw [if_pos ⟨rfl, hsz⟩]
        · rw [if_neg (by simp [hsz]), getD_ge _ _ hsz, getD_ge _ _ (by rw [hn.size]; exact hsz)]
      · rw [if_neg (by simp [ht1])]
        refine (hn.slot t).2 ?_
        rw [hC.S]
        cases hc : L.contains t
        · rfl
        · have hm : t = t1 ∨ t = t2 := by have := hot_mem ht hc; rw [hh] at this; simpa using this
          rcases hm with e | e
          · exact absurd e ht1
          · exact absurd e ht2
  rw [e]
  exact okUpon_of_rn hC hK hph (h _ _ (hv _ _ h1) (hv _ _ h2) w hK)

theorem skipN (hw : Region.wanted o (yielded ops a.tmps) = false) (hk : ∀ a', a' = a.put o.dst undef → s.Lex P ops Q (k + 1) rest a' d) : s.Lex P ops Q k (o :: rest) a d := by
  refine ⟨?_⟩
  unfold Spec.lex
  rw [if_neg (by rw [hw]; exact Bool.false_ne_true)]
  exact (hk _ rfl).out

theorem setCell_twice (w : World) (p : Addr) (u v : Value) (hp : p.spot = none) : (w.setCell p u).setCell p v = w.setCell p v := by
  unfold World.setCell
  simp only
  congr 1
  apply Array.ext_getElem?
  intro i
  simp only [Array.getElem?_modify]
  by_cases hi : p.block = i
  · simp only [hi, if_true]
    cases w.heap[i]? with
    | none => rfl
    | some o => cases o <;> simp [hp]
  · simp only [hi, if_false]

theorem below_both {B : Nat} {W w : World} (h : Below B W w) (p : Addr) (u : Value) (hp : p.block < B) : Below B (W.setCell p u) (w.setCell p u) :=
  ⟨h.os, h.tape, h.output, by simpa [World.setCell] using h.size, fun k hk => by
    by_cases hkp : k = p.block
    · subst hkp
      have := h.block _ hp
      simp only [World.setCell, Array.getElem?_modify, if_true, this]
    · rw [Below.heap_setCell _ _ _ _ hkp, Below.heap_setCell _ _ _ _ hkp]; exact h.block k hk⟩

theorem size_setCell (w : World) (p : Addr) (u : Value) : (w.setCell p u).heap.size = w.heap.size := by simp [World.setCell]

/-- The store of a value that is known only so. -/
theorem sn_store {p : Addr} {c0 : Value} (hw : Region.wanted o (yielded ops a.tmps) = true) (hs : noSel o = true) (hdst : o.dst = none) (t1 : Tmp) (hh : hot L o = [t1]) (h1 : a.tmps.getD t1 undef = v)
    (hp : p.spot = none) (hpb : p.block < W.heap.size) (hc : W.cell? p = some c0) (hf : W.frozen? p = false)
    (h : ∀ u1, Veq u1 v → ∀ w c, w.cell? p = some c → w.frozen? p = false → (sn W L p v k).K w → (execOp (a.put (some t1) u1).eval o).run P w = .ok .skip (w.setCell p u1))
    (hk : (sn W L p v k).Lex P ops Q (k + 1) rest a (fun j => j = k ∨ d j)) : (sn W L p v k).Lex P ops Q k (o :: rest) a d := by
  refine ⟨?_⟩
  unfold Spec.lex
  rw [if_pos hw]
  refine ⟨undef, fun a' hn w hK => ?_, by rw [hdst]; exact hk.out⟩
  have hv : Veq (a'.tmps.getD t1 undef) v := by
    rw [← h1]
    cases hS : (sn W L p v k).S t1
    · rw [(hn.slot t1).2 hS]; exact Veq.refl _
    · exact (hn.slot t1).1 hS
  have e : execOp a'.eval o = execOp (a.put (some t1) (a'.tmps.getD t1 undef)).eval o := execOp_agree o (noSel_spec hs) fun t ht => by
    rw [getD_put]
    by_cases ht1 : t = t1
    · subst ht1
      by_cases hsz : t < a.tmps.size
      · rw [if_pos ⟨rfl, hsz⟩]
      · rw [if_neg (by simp [hsz]), getD_ge _ _ hsz, getD_ge _ _ (by rw [hn.size]; exact hsz)]
    · rw [if_neg (by simp [ht1])]
      refine (hn.slot t).2 ?_
      show L.contains t = false
      cases hc : L.contains t
      · rfl
      · exact absurd (by have := hot_mem ht hc; rw [hh] at this; simpa using this) ht1
  rw [e]
  have hcell : ∃ c, w.cell? p = some c := by
    rcases hK with hK | ⟨u, _, hK⟩
    · exact ⟨c0, by rw [hK.cell hpb]; exact hc⟩
    · exact ⟨u, by rw [hK.cell hpb]; exact World.cell?_setCell_same _ _ _ hc⟩
  have hfr : w.frozen? p = false := by
    rcases hK with hK | ⟨u, _, hK⟩
    · rw [hK.frozen hpb]; exact hf
    · rw [hK.frozen hpb, ← hf]; simp
  obtain ⟨c, hcc⟩ := hcell
  rw [h _ hv w c hcc hfr hK]
  have hst : stored W p v (w.setCell p (a'.tmps.getD t1 undef)) := by
    refine ⟨_, hv, ?_⟩
    rcases hK with hK | ⟨u, _, hK⟩
    · exact below_both hK p _ hpb
    · have := below_both (B := W.heap.size) hK p (a'.tmps.getD t1 undef) hpb
      rwa [setCell_twice _ _ _ _ hp] at this
  exact ⟨(fun dd e => by rw [hdst] at e; cases e), ⟨.inr hst, fun j _ e => hst⟩, fun e => hst⟩

/-- What holds of every frame whose slots of L are near. -/
def ends (Q : Act → Prop) : List Tmp → Act → Prop
  | [], a => Q a
  | t :: l, a => ∀ u, Veq u (a.tmps.getD t undef) → ends Q l (a.put (some t) u)

theorem ends_near (hC : ∀ d, s.S d = true → d ∈ L) {R : Act → Prop} : ∀ {a' a : Act}, a'.defers = a.defers → a'.tmps.size = a.tmps.size →
    (∀ i, (i ∈ L → Veq (a'.tmps.getD i undef) (a.tmps.getD i undef)) ∧ (i ∉ L → a'.tmps.getD i undef = a.tmps.getD i undef)) → ends R L a → R a' := by
  clear hC
  induction L with
  | nil =>
    intro a' a h1 h2 h3 h
    obtain ⟨t', d'⟩ := a'
    obtain ⟨t, d⟩ := a
    have hd : d' = d := h1
    have hs : t'.size = t.size := h2
    have : t' = t := by
      apply Array.ext hs
      intro i hi1 hi2
      have := (h3 i).2 (by simp)
      simpa [Array.getD_eq_getD_getElem?, hi1, hi2] using this
    rw [hd, this]; exact h
  | cons t l ih =>
    intro a' a h1 h2 h3 h
    have hsz : (a.put (some t) (a'.tmps.getD t undef)).tmps.size = a.tmps.size := by simp [Act.put]
    refine ih (a := a.put (some t) (a'.tmps.getD t undef)) h1 (by rw [hsz]; exact h2) (fun i => ?_) (h _ ((h3 t).1 (by simp)))
    rw [getD_put]
    by_cases hi : i = t
    · subst hi
      by_cases hs : i < a.tmps.size
      · rw [if_pos ⟨rfl, hs⟩]; exact ⟨fun _ => Veq.refl _, fun _ => rfl⟩
      · rw [if_neg (by simp [hs]), getD_ge _ _ hs, getD_ge _ _ (by rw [h2]; exact hs)]; exact ⟨fun _ => Veq.refl _, fun _ => rfl⟩
    · rw [if_neg (by simp [hi])]
      exact ⟨fun hl => (h3 i).1 (by simp [hl]), fun hl => (h3 i).2 (by simp [hl, hi])⟩

def endv (Q : Act → Prop) : List (Tmp × Value) → Act → Prop
  | [], a => Q a
  | (t, v) :: l, a => a.tmps.getD t undef = v ∧ ∀ u, Veq u v → endv Q l (a.put (some t) u)

theorem ends_of_endv {R : Act → Prop} : ∀ {l : List (Tmp × Value)} {a : Act}, endv R l a → ends R (l.map (·.1)) a
  | [], _, h => h
  | (t, v) :: l, a, h => fun u hu => ends_of_endv (h.2 u (by rw [← h.1]; exact hu))

theorem rn_endv (l : List (Tmp × Value)) (hl : l.map (·.1) = L) (h : ∀ w', Below W.heap.size W w' → endv (fun a => Q .normal a w') l a) : (rn W L).Lex P ops Q k [] a d := by
  refine ⟨fun a' hn w' hK _ => ?_⟩
  refine ends_near (s := rn W L) (L := L) (fun d hd => by simpa [rn] using hd) hn.defers hn.size (fun i => ⟨fun hi => (hn.slot i).1 (by simpa [rn] using hi), fun hi => (hn.slot i).2 (by simpa [rn] using hi)⟩)
    (by have := ends_of_endv (h w' hK); rwa [hl] at this)

theorem rn_end (h : ∀ w', Below W.heap.size W w' → ends (fun a => Q .normal a w') L a) : (rn W L).Lex P ops Q k [] a d := by
  refine ⟨fun a' hn w' hK _ => ?_⟩
  refine ends_near (s := rn W L) (L := L) (fun d hd => by simpa [rn] using hd) hn.defers hn.size (fun i => ⟨fun hi => (hn.slot i).1 (by simpa [rn] using hi), fun hi => (hn.slot i).2 (by simpa [rn] using hi)⟩) (h w' hK)

theorem sn_endv {p : Addr} {n : Nat} (l : List (Tmp × Value)) (hl : l.map (·.1) = L) (hd : d n) (h : ∀ u w', Veq u v → Below W.heap.size (W.setCell p u) w' → endv (fun a => Q .normal a w') l a) : (sn W L p v n).Lex P ops Q k [] a d := by
  refine ⟨fun a' hn w' _ hdone => ?_⟩
  obtain ⟨u, h1, h2⟩ := hdone n hd rfl
  exact ends_near (s := sn W L p v n) (L := L) (fun d hd => by simpa [sn] using hd) hn.defers hn.size (fun i => ⟨fun hi => (hn.slot i).1 (by simpa [sn] using hi), fun hi => (hn.slot i).2 (by simpa [sn] using hi)⟩)
    (by have := ends_of_endv (h u w' h1 h2); rwa [hl] at this)

theorem sn_end {p : Addr} {n : Nat} (hd : d n) (h : ∀ u w', Veq u v → Below W.heap.size (W.setCell p u) w' → ends (fun a => Q .normal a w') L a) : (sn W L p v n).Lex P ops Q k [] a d := by
  refine ⟨fun a' hn w' _ hdone => ?_⟩
  obtain ⟨u, h1, h2⟩ := hdone n hd rfl
  exact ends_near (s := sn W L p v n) (L := L) (fun d hd => by simpa [sn] using hd) hn.defers hn.size (fun i => ⟨fun hi => (hn.slot i).1 (by simpa [sn] using hi), fun hi => (hn.slot i).2 (by simpa [sn] using hi)⟩) (h u w' h1 h2)

end

theorem wp_region_rn {P : Program} {Q : Exit → Act → World → Prop} {id : Nat} {a : Act} {W : World} {l : List Oper} (L : List Tmp) (hm : P.follows .mixedOrders = true) (hB : Region.lexB .any l.toArray = true)
    (h : ∀ d, (rn W L).Lex P l.toArray Q 0 l a d) : (Code.region id l.toArray true).wp P Q a W :=
  wp_region_lex (rn W L) hm hB (Below.drew (Below.refl _ _)) (h _)

theorem wp_region_sn {P : Program} {Q : Exit → Act → World → Prop} {id : Nat} {a : Act} {W : World} {l : List Oper} (L : List Tmp) (p : Addr) (v : Value) (n : Nat) (hm : P.follows .mixedOrders = true) (hB : Region.lexB .any l.toArray = true)
    (h : (sn W L p v n).Lex P l.toArray Q 0 l a (fun _ => False)) : (Code.region id l.toArray true).wp P Q a W :=
  wp_region_lex (sn W L p v n) hm hB (.inl (Below.drew (Below.refl _ _))) h

theorem wp_region_tail {P : Program} {Q : Exit → Act → World → Prop} {id : Nat} {a : Act} {w : World} {l : List Oper} (n : Nat) (hm : P.follows .mixedOrders = true) (hB : Region.lexTailB .any l.toArray n = true)
    (h : wpStill P l.toArray w.drew (fun a' => wpList P l.toArray Q (l.drop n) a' w.drew) (l.take n) a) : (Code.region id l.toArray true).wp P Q a w :=
  wp_region_still_tail n hm hB h

section
variable {L : List Tmp} {P : Program} {ops : Array Oper} {Q : Exit → Act → World → Prop} {W : World} {k : Nat} {o : Oper} {rest : List Oper} {a : Act} {d : Nat → Prop} {v : Value} {p : Addr} {n : Nat}
theorem sn_ph (h : (k == n) = false) : ∀ w', (sn W L p v n).K w' → (sn W L p v n).Phi k w' := fun _ _ e => by rw [e] at h; simp at h
theorem sop0e (hk : (k == n) = false) (hw : Region.wanted o (yielded ops a.tmps) = true) (hs : noSel o = true) (hh : hot L o = [])
    (h : ∃ u, (∀ w, (sn W L p v n).K w → rdUpon P w u ((execOp a.eval o).run P w)) ∧ ∀ a', a' = a.put o.dst u → (sn W L p v n).Lex P ops Q (k + 1) rest a' (fun j => j = k ∨ d j)) : (sn W L p v n).Lex P ops Q k (o :: rest) a d :=
  op0e sn_class (sn_ph hk) hw hs hh h
theorem sop0 (hk : (k == n) = false) (hw : Region.wanted o (yielded ops a.tmps) = true) (hs : noSel o = true) (hh : hot L o = [])
    (h : ∃ u, (∀ w, (sn W L p v n).K w → rnUpon P w (hotD L o) u ((execOp a.eval o).run P w)) ∧ ∀ a', a' = a.put o.dst u → (sn W L p v n).Lex P ops Q (k + 1) rest a' (fun j => j = k ∨ d j)) : (sn W L p v n).Lex P ops Q k (o :: rest) a d :=
  op0 sn_class (sn_ph hk) hw hs hh h
end

end Go.Reg2
