/- A region of operations whose order is left open, walked once in the order of the text: each operation gives one value (a NaN stands for every NaN in the slots of S), keeps what is known of the memory (K) and adds a fact of its own (Phi). No condition. -/
import Derived.Still
import Derived.WalkKit
namespace Go.Reg
open Go

/-- The same value; but a float that is no number stands for each such. -/
def FEq (k : FloatKind) (x y : Nat) : Prop := x = y ∨ ((k.format.read x).isNaN = true ∧ (k.format.read y).isNaN = true)

def Veq (u v : Value) : Prop := u = v ∨ ∃ k x y, u = .float k x ∧ v = .float k y ∧ (k.format.read x).isNaN = true ∧ (k.format.read y).isNaN = true

theorem Veq.refl (u : Value) : Veq u u := .inl rfl
theorem Veq.float {k : FloatKind} {x y : Nat} (h : FEq k x y) : Veq (.float k x) (.float k y) := by
  rcases h with rfl | h
  · exact .inl rfl
  · exact .inr ⟨k, x, y, rfl, rfl, h.1, h.2⟩
theorem Veq.of_float {k : FloatKind} {u : Value} {y : Nat} (h : Veq u (.float k y)) : ∃ x, u = .float k x ∧ FEq k x y := by
  rcases h with rfl | ⟨k', x, y', rfl, e, h1, h2⟩
  · exact ⟨y, rfl, .inl rfl⟩
  · cases e; exact ⟨x, rfl, .inr ⟨h1, h2⟩⟩
theorem Veq.bool_iff {u v : Value} (h : Veq u v) (b : Bool) : u = .bool b ↔ v = .bool b := by
  rcases h with rfl | ⟨k, x, y, rfl, rfl, _, _⟩
  · exact Iff.rfl
  · constructor <;> intro h <;> cases h

structure Spec where
  K : World → Prop
  Phi : Nat → World → Prop
  S : Tmp → Bool

namespace Spec
variable (s : Spec)

def keep (w w' : World) : Prop := s.K w' ∧ ∀ j, s.Phi j w → s.Phi j w'
def like (dst : Option Tmp) (u v : Value) : Prop := ∀ d, dst = some d → (s.S d = true → Veq u v) ∧ (s.S d = false → u = v)

structure Near (a' a : Act) : Prop where
  defers : a'.defers = a.defers
  size : a'.tmps.size = a.tmps.size
  slot : ∀ i, (s.S i = true → Veq (a'.tmps.getD i undef) (a.tmps.getD i undef)) ∧ (s.S i = false → a'.tmps.getD i undef = a.tmps.getD i undef)

def okUpon (P : Program) (w : World) (k : Nat) (dst : Option Tmp) (v : Value) : Result Next → Prop
  | .ok (.value u) w' => s.like dst u v ∧ s.keep w w' ∧ s.Phi k w'
  | .ok .skip w' => s.like dst undef v ∧ s.keep w w' ∧ s.Phi k w'
  | .ok (.enter f args) w' => Calls P f args w' fun e w'' => ∃ u, e = .returned u ∧ s.like dst u v ∧ s.keep w w'' ∧ s.Phi k w''
  | _ => False

def okAt (P : Program) (k : Nat) (o : Oper) (a : Act) (v : Value) : Prop :=
  ∀ a', s.Near a' a → ∀ w, s.K w → s.okUpon P w k o.dst v ((execOp a'.eval o).run P w)

def final (Q : Exit → Act → World → Prop) (a : Act) (done : Nat → Prop) : Prop :=
  ∀ a', s.Near a' a → ∀ w', s.K w' → (∀ j, done j → s.Phi j w') → Q .normal a' w'

def qOp (P : Program) (ops : Array Oper) (i : Nat) (Kt : Act → (Nat → Prop) → Prop) (a : Act) (done : Nat → Prop) : Prop :=
  match ops[i]? with
  | none => Kt a done
  | some o => if Region.wanted o (yielded ops a.tmps) then ∃ v, s.okAt P i o a v ∧ Kt (a.put o.dst v) (fun j => j = i ∨ done j) else Kt (a.put o.dst undef) done

def anyF (P : Program) (md : Region.Mode) (ops : Array Oper) (Q : Exit → Act → World → Prop) : Nat → Array Bool → Act → (Nat → Prop) → Prop
  | 0, listed, a, done => Region.ready md ops listed = [] ∧ s.final Q a done
  | fuel + 1, listed, a, done =>
    (Region.ready md ops listed = [] → s.final Q a done) ∧
    ∀ i ∈ Region.ready md ops listed, s.qOp P ops i (fun a done => anyF P md ops Q fuel (listed.setIfInBounds i true) a done) a done

/-- The walk in the order of the text. -/
def lex (P : Program) (ops : Array Oper) (Q : Exit → Act → World → Prop) : Nat → List Oper → Act → (Nat → Prop) → Prop
  | _, [], a, done => s.final Q a done
  | k, o :: rest, a, done =>
    if Region.wanted o (yielded ops a.tmps) then ∃ v, s.okAt P k o a v ∧ lex P ops Q (k + 1) rest (a.put o.dst v) (fun j => j = k ∨ done j)
    else lex P ops Q (k + 1) rest (a.put o.dst undef) done
end Spec

variable {s : Spec} {P : Program} {ops : Array Oper} {md : Region.Mode} {Q : Exit → Act → World → Prop}

theorem getD_set (xs : Array Value) (d i : Nat) (v : Value) : (xs.setIfInBounds d v).getD i undef = if i = d ∧ d < xs.size then v else xs.getD i undef := by
  simp only [Array.getD_eq_getD_getElem?, Array.getElem?_setIfInBounds]
  by_cases h : d = i
  · subst h
    by_cases h2 : d < xs.size
    · simp [h2]
    · simp [h2]
  · have h' : ¬ i = d := fun e => h e.symm
    simp [h, h']

theorem Spec.Near.refl (a : Act) : s.Near a a := ⟨rfl, rfl, fun _ => ⟨fun _ => Veq.refl _, fun _ => rfl⟩⟩

theorem Spec.Near.put {a' a : Act} (h : s.Near a' a) {dst : Option Tmp} {u v : Value} (hv : s.like dst u v) : s.Near (a'.put dst u) (a.put dst v) := by
  cases dst with
  | none => exact h
  | some d =>
    refine ⟨h.defers, by simp [Act.put, h.size], fun i => ?_⟩
    simp only [Act.put, getD_set, h.size]
    by_cases hi : i = d ∧ d < a.tmps.size
    · rw [if_pos hi, if_pos hi, hi.1]; exact hv d rfl
    · rw [if_neg hi, if_neg hi]; exact h.slot i

/-- A slot given back as it was. -/
theorem Spec.Near.unput {a'' a : Act} {dst : Option Tmp} {v : Value} (h : s.Near a'' (a.put dst v)) :
    ∃ u, s.Near (a''.put dst u) a := by
  cases dst with
  | none => exact ⟨v, h⟩
  | some d =>
    refine ⟨a.tmps.getD d undef, h.defers, by simpa [Act.put] using h.size, fun i => ?_⟩
    have hsz : a''.tmps.size = a.tmps.size := by simpa [Act.put] using h.size
    have hs := h.slot i
    simp only [Act.put, getD_set, hsz] at hs ⊢
    by_cases hi : i = d ∧ d < a.tmps.size
    · rw [if_pos hi, hi.1]; exact ⟨fun _ => Veq.refl _, fun _ => rfl⟩
    · rw [if_neg hi] at hs ⊢; exact hs

theorem yielded_near {a' a : Act} (h : s.Near a' a) (g : Nat) : yielded ops a'.tmps g = yielded ops a.tmps g := by
  unfold yielded
  cases ht : (ops[g]?).bind (·.dst) with
  | none => rfl
  | some t =>
    simp only [Option.bind_some]
    have hv : Veq (a'.tmps.getD t undef) (a.tmps.getD t undef) := by
      cases hS : s.S t with
      | true => exact (h.slot t).1 hS
      | false => rw [(h.slot t).2 hS]; exact Veq.refl _
    rcases Nat.lt_or_ge t a.tmps.size with hlt | hge
    · have hlt' : t < a'.tmps.size := by rw [h.size]; exact hlt
      simp only [Array.getD_eq_getD_getElem?, Array.getElem?_eq_getElem hlt, Array.getElem?_eq_getElem hlt', Option.getD_some] at hv ⊢
      have hb := hv.bool_iff
      generalize a'.tmps[t] = x at *
      generalize a.tmps[t] = y at *
      by_cases hx : ∃ b, y = .bool b
      · obtain ⟨b, rfl⟩ := hx
        rw [(hb b).2 rfl]
      · have h1 : ∀ b, y ≠ .bool b := fun b e => hx ⟨b, e⟩
        have h2 : ∀ b, x ≠ .bool b := fun b e => hx ⟨b, (hb b).1 e⟩
        cases x <;> cases y <;> first | rfl | (exact absurd rfl (h1 _)) | (exact absurd rfl (h2 _))
    · have hge' : a'.tmps.size ≤ t := by rw [h.size]; exact hge
      rw [Array.getElem?_eq_none hge, Array.getElem?_eq_none hge']

theorem wanted_near {a' a : Act} (h : s.Near a' a) (o : Oper) : Region.wanted o (yielded ops a'.tmps) = Region.wanted o (yielded ops a.tmps) := by
  unfold Region.wanted
  cases hg : o.guard with
  | none => rfl
  | some gw => obtain ⟨g, want⟩ := gw; simp only [yielded_near h g]

theorem qOp_mono {i : Nat} {a : Act} {done : Nat → Prop} {Kt Kt' : Act → (Nat → Prop) → Prop} (h : ∀ a d, Kt a d → Kt' a d) (hh : s.qOp P ops i Kt a done) : s.qOp P ops i Kt' a done := by
  unfold Spec.qOp at *
  split
  · exact h _ _ (by simpa [*] using hh)
  · rename_i o ho
    simp only [ho] at hh
    split
    · rename_i hw; simp only [hw, if_true] at hh; obtain ⟨v, h1, h2⟩ := hh; exact ⟨v, h1, h _ _ h2⟩
    · rename_i hw; simp only [hw] at hh; exact h _ _ hh

/-- From any frame near, any world of the class with the facts that are there. -/
theorem wpOp_of_qOp {i : Nat} {a a' : Act} {w : World} {done : Nat → Prop} {Kt : Act → (Nat → Prop) → Prop} {K' : Act → World → Prop}
    (hn : s.Near a' a) (hK : s.K w) (hd : ∀ j, done j → s.Phi j w)
    (h : ∀ a a' w d, s.Near a' a → s.K w → (∀ j, d j → s.Phi j w) → Kt a d → K' a' w) (hh : s.qOp P ops i Kt a done) : wpOp P ops Q i K' a' w := by
  unfold Spec.qOp at hh
  unfold wpOp
  cases ho : ops[i]? with
  | none => simp only [ho] at hh; exact h _ _ _ _ hn hK hd hh
  | some o =>
    simp only [ho] at hh ⊢
    rw [wanted_near hn]
    split
    · rename_i hw
      simp only [hw, if_true] at hh
      obtain ⟨v, hv, hk⟩ := hh
      refine .inl ?_
      have h3 := hv a' hn w hK
      unfold Oper.wp
      have fin : ∀ u w', s.like o.dst u v → s.keep w w' → s.Phi i w' → K' (a'.put o.dst u) w' := fun u w' h1 h2 h4 => by
        refine h _ _ _ _ (hn.put h1) h2.1 ?_ hk
        rintro j (rfl | hj)
        · exact h4
        · exact h2.2 j (hd j hj)
      generalize (execOp a'.eval o).run P w = r at *
      cases r with
      | ok n w' =>
        cases n <;> simp only [Spec.okUpon] at h3 <;> simp only [Oper.upon]
        case value u => exact fin u w' h3.1 h3.2.1 h3.2.2
        case skip => exact fin undef w' h3.1 h3.2.1 h3.2.2
        case enter f args => exact h3.mono fun e w'' ⟨u, he, h1, h2, h4⟩ => by subst he; exact fin u w'' h1 h2 h4
      | halt x w' => simp only [Spec.okUpon] at h3
    · rename_i hw
      simp only [hw] at hh
      exact h _ _ _ _ (hn.put (fun d _ => ⟨fun _ => Veq.refl _, fun _ => rfl⟩)) hK hd hh

theorem wpAny_of_anyF : ∀ (fuel : Nat) (listed : Array Bool) (a a' : Act) (w : World) (done : Nat → Prop), s.Near a' a → s.K w → (∀ j, done j → s.Phi j w) →
    s.anyF P md ops Q fuel listed a done → wpAny P md ops Q fuel listed a' w
  | 0, _, _, _, _, _, hn, hK, hd, h => ⟨h.1, h.2 _ hn _ hK hd⟩
  | fuel + 1, _, _, _, _, _, hn, hK, hd, h => ⟨fun h0 => h.1 h0 _ hn _ hK hd, fun i hi =>
      wpOp_of_qOp hn hK hd (fun a a' w d hn hK hd hk => wpAny_of_anyF fuel _ a a' w d hn hK hd hk) (h.2 i hi)⟩

theorem okAt_of_same {i : Nat} {o : Oper} {v : Value} {a : Act} {dst : Option Tmp} {u : Value} (hsel : ∀ cs b, o.op ≠ .select cs b)
    (hl : ∀ d, dst = some d → d ∉ o.looksAt ops) (hy : s.okAt P i o a v) : s.okAt P i o (a.put dst u) v := fun a'' hn w hK => by
  obtain ⟨x, hx⟩ := hn.unput
  have := hy _ hx w hK
  rwa [execOp_put o hsel a'' dst x hl] at this

theorem okAt_put {j : Nat} {oj : Oper} {v u : Value} {a : Act} {dst : Option Tmp} (hsel : ∀ cs b, oj.op ≠ .select cs b)
    (hl : ∀ d, dst = some d → d ∉ oj.looksAt ops) (hy : s.okAt P j oj (a.put dst v) u) : s.okAt P j oj a u := fun a' hn w hK => by
  have := hy _ (hn.put (dst := dst) (u := v) (v := v) (fun d _ => ⟨fun _ => Veq.refl _, fun _ => rfl⟩)) w hK
  rwa [execOp_put oj hsel a' dst v hl] at this

/-- Operation 'o', number i, would give v in the frame a; or it is passed over. -/
def Gives (s : Spec) (P : Program) (ops : Array Oper) (i : Nat) (o : Oper) (v : Value) (a : Act) : Prop :=
  (Region.wanted o (yielded ops a.tmps) = true ∧ s.okAt P i o a v) ∨ (Region.wanted o (yielded ops a.tmps) = false ∧ v = undef)

/-- What is done when it has come up. -/
def doneBy (ops : Array Oper) (i : Nat) (o : Oper) (a : Act) (done : Nat → Prop) : Nat → Prop := if Region.wanted o (yielded ops a.tmps) = true then fun j => j = i ∨ done j else done

theorem Gives.qOp {i : Nat} {o : Oper} {v : Value} {a : Act} {done : Nat → Prop} (hi : ops[i]? = some o) (hy : Gives s P ops i o v a) {Kt : Act → (Nat → Prop) → Prop}
    (h : Kt (a.put o.dst v) (doneBy ops i o a done)) : s.qOp P ops i Kt a done := by
  unfold Spec.qOp
  simp only [hi]
  unfold doneBy at h
  rcases hy with ⟨hw, hv⟩ | ⟨hw, rfl⟩
  · simp only [hw, if_true] at h ⊢; exact ⟨v, hv, h⟩
  · simp only [hw, Bool.false_eq_true, if_false] at h ⊢; exact h

theorem gives_of_qOp {i : Nat} {o : Oper} {a : Act} {done : Nat → Prop} {Kt : Act → (Nat → Prop) → Prop} (hi : ops[i]? = some o) (h : s.qOp P ops i Kt a done) :
    ∃ v, Gives s P ops i o v a ∧ Kt (a.put o.dst v) (doneBy ops i o a done) := by
  unfold Spec.qOp at h
  simp only [hi] at h
  unfold doneBy
  by_cases hw : Region.wanted o (yielded ops a.tmps) = true
  · simp only [hw, if_true] at h ⊢
    obtain ⟨v, h1, h2⟩ := h
    exact ⟨v, .inl ⟨hw, h1⟩, h2⟩
  · simp only [hw] at h ⊢
    exact ⟨undef, .inr ⟨by simpa using hw, rfl⟩, h⟩

theorem Gives.put {i : Nat} {o : Oper} {v u : Value} {a : Act} {dst : Option Tmp} (hsel : ∀ cs b, o.op ≠ .select cs b)
    (hl : ∀ d, dst = some d → d ∉ o.looksAt ops) (hy : Gives s P ops i o v a) : Gives s P ops i o v (a.put dst u) := by
  unfold Gives at *
  rw [wanted_put o a dst u hl]
  exact hy.imp (fun h => ⟨h.1, okAt_of_same hsel hl h.2⟩) id

theorem Gives.unput {j : Nat} {o : Oper} {v u : Value} {a : Act} {dst : Option Tmp} (hsel : ∀ cs b, o.op ≠ .select cs b)
    (hl : ∀ d, dst = some d → d ∉ o.looksAt ops) (hy : Gives s P ops j o u (a.put dst v)) : Gives s P ops j o u a := by
  unfold Gives at *
  rw [wanted_put o a dst v hl] at hy
  exact hy.imp (fun h => ⟨h.1, okAt_put hsel hl h.2⟩) id

theorem doneBy_put {i : Nat} {o : Oper} {a : Act} {dst : Option Tmp} {v : Value} (hl : ∀ d, dst = some d → d ∉ o.looksAt ops) (done : Nat → Prop) :
    doneBy ops i o (a.put dst v) done = doneBy ops i o a done := by
  unfold doneBy; rw [wanted_put o a dst v hl]

theorem doneBy_comm {i j : Nat} {oi oj : Oper} {a : Act} (done : Nat → Prop) : doneBy ops i oi a (doneBy ops j oj a done) = doneBy ops j oj a (doneBy ops i oi a done) := by
  unfold doneBy
  split <;> split <;> first | rfl | (funext x; apply propext; constructor <;> rintro (h | h | h) <;> simp [h])

theorem qOp_put {i j : Nat} {oi oj : Oper} {v : Value} (hj : ops[j]? = some oj) (hap : oi.apart ops oj = true)
    (hsi : ∀ cs b, oi.op ≠ .select cs b) (hsj : ∀ cs b, oj.op ≠ .select cs b) {Kt : Act → (Nat → Prop) → Prop} {a : Act} {done : Nat → Prop}
    (hy : Gives s P ops i oi v a) (h : s.qOp P ops j Kt (a.put oi.dst v) (doneBy ops i oi a done)) :
    s.qOp P ops j (fun a' d' => Gives s P ops i oi v a' ∧ Kt (a'.put oi.dst v) (doneBy ops i oi a' d')) a done := by
  obtain ⟨h1, h2, h3⟩ := Oper.apart_spec hap
  obtain ⟨u, hu, hk⟩ := gives_of_qOp hj h
  refine (hu.unput hsj h1).qOp hj ⟨hy.put hsi h3, ?_⟩
  rw [← Act.put_comm a v u h2]
  rw [doneBy_put h1, doneBy_comm] at hk
  rw [doneBy_put h3]
  exact hk

theorem anyF_first {i : Nat} {oi : Oper} {v : Value} (hi : ops[i]? = some oi) (hsel : ∀ (j : Nat) (o : Oper) cs b, ops[j]? = some o → o.op ≠ .select cs b) :
    ∀ (fuel : Nat) (listed : Array Bool) (a : Act) (done : Nat → Prop),
      (∀ j oj, ops[j]? = some oj → j ≠ i → listed.getD j true = false → (∀ e ∈ oj.after, Region.binds md e = true → e.on ≠ i) → oi.apart ops oj = true) →
      i ∈ Region.ready md ops listed → Gives s P ops i oi v a →
      s.anyF P md ops Q fuel (listed.setIfInBounds i true) (a.put oi.dst v) (doneBy ops i oi a done) → s.anyF P md ops Q (fuel + 1) listed a done := by
  intro fuel
  induction fuel with
  | zero =>
    intro listed a done _ hr hy H
    refine ⟨fun h => (by rw [h] at hr; cases hr), fun j hj => ?_⟩
    by_cases hji : j = i
    · subst hji; exact hy.qOp hi H
    · have := ready_mono hj hji
      rw [H.1] at this
      cases this
  | succ fuel ih =>
    intro listed a done hfree hr hy H
    refine ⟨fun h => (by rw [h] at hr; cases hr), fun j hj => ?_⟩
    by_cases hji : j = i
    · subst hji; exact hy.qOp hi H
    · have h1 := H.2 j (ready_mono hj hji)
      obtain ⟨hjun, oj, hoj, hall⟩ := mem_ready.1 hj
      have hnot : ∀ e ∈ oj.after, Region.binds md e = true → e.on ≠ i := fun e he hb heq => by
        have h1 := hall e he hb
        have h0 := (mem_ready.1 hr).1
        rw [heq] at h1
        rcases Nat.lt_or_ge i listed.size with h' | h'
        · simp [h'] at h0 h1; rw [h0] at h1; cases h1
        · simp [Array.getElem?_eq_none h'] at h1
      have h2 := qOp_put hoj (hfree j oj hoj hji hjun hnot) (fun cs b => hsel i oi cs b hi) (fun cs b => hsel j oj cs b hoj) hy h1
      have hfree' : ∀ k ok, ops[k]? = some ok → k ≠ i → (listed.setIfInBounds j true).getD k true = false →
          (∀ e ∈ ok.after, Region.binds md e = true → e.on ≠ i) → oi.apart ops ok = true := fun k ok hk hki hun hno => by
        refine hfree k ok hk hki ?_ hno
        by_cases hjk : j = k
        · subst hjk; exact hjun
        · rw [getD_set_ne true hjk] at hun; exact hun
      refine qOp_mono (fun a' d' h3 => ih (listed.setIfInBounds j true) a' d' hfree' (ready_mono hr (Ne.symm hji)) h3.1 ?_) h2
      rw [Array.setIfInBounds_comm _ _ hji]
      exact h3.2

theorem anyF_lex (hs : Region.noSelect ops = true) : ∀ (l : List Oper) (k : Nat) (listed : Array Bool) (a : Act) (done : Nat → Prop), (∀ j, l[j]? = ops[k + j]?) →
    Region.lexFrom md ops l.length k listed = true → s.lex P ops Q k l a done → s.anyF P md ops Q l.length listed a done
  | [], _, _, _, _, _, hB, h => ⟨by simpa [Region.lexFrom] using hB, h⟩
  | o :: l, k, listed, a, done, hl, hB, h => by
    have h0 : ops[k]? = some o := by simpa using (hl 0).symm
    simp only [List.length_cons, Region.lexFrom, Bool.and_eq_true] at hB
    obtain ⟨⟨hr, hf⟩, hB'⟩ := hB
    have hst : s.qOp P ops k (fun a d => s.lex P ops Q (k + 1) l a d) a done := by unfold Spec.qOp; simp only [h0]; exact h
    obtain ⟨v, hy, hK⟩ := gives_of_qOp h0 hst
    exact anyF_first h0 (Region.noSelect_spec hs) l.length listed a done (Region.free_spec h0 hf) (by simpa using hr) hy
      (anyF_lex hs l (k + 1) _ _ _ (fun j => by have := hl (j + 1); simpa [Nat.add_assoc, Nat.add_comm 1 j] using this) hB' hK)

/-- The walk, kept shut: tactics that look at a goal do not run it. -/
structure Spec.Lex (s : Spec) (P : Program) (ops : Array Oper) (Q : Exit → Act → World → Prop) (k : Nat) (l : List Oper) (a : Act) (done : Nat → Prop) : Prop where
  out : s.lex P ops Q k l a done

/-- **ONE WALK SERVES EVERY ORDER.** -/
theorem wp_region_lex {id : Nat} {a : Act} {w : World} {l : List Oper} (s : Spec) (hm : P.follows .mixedOrders = true) (hB : Region.lexB .any l.toArray = true) (hK : s.K w.drew)
    (h : s.Lex P l.toArray Q 0 l a (fun _ => False)) : (Code.region id l.toArray true).wp P Q a w := by
  simp only [Region.lexB, Bool.and_eq_true] at hB
  refine wp_region_any hm (wpAny_of_anyF (s := s) _ _ a a _ (fun _ => False) (Spec.Near.refl a) hK (fun _ h => h.elim) ?_)
  have := anyF_lex (s := s) (Q := Q) (md := .any) hB.1 l 0 (Array.replicate l.toArray.size false) a (fun _ => False) (by simp) (by simpa using hB.2) h.out
  simpa using this

/-! ### Regions that read, and call what makes memory of its own alone -/
open Go.RowKit

def rd (W : World) : Spec := ⟨fun w => Below W.heap.size W w, fun _ _ => True, fun _ => false⟩

theorem Spec.Near.eq {a' a : Act} (hS : ∀ i, s.S i = false) (h : s.Near a' a) : a' = a := by
  obtain ⟨t', d'⟩ := a'
  obtain ⟨t, d⟩ := a
  have hd : d' = d := h.defers
  have hs : t'.size = t.size := h.size
  have : t' = t := by
    apply Array.ext hs
    intro i h1 h2
    have := (h.slot i).2 (hS i)
    simpa [Array.getD_eq_getD_getElem?, h1, h2] using this
  rw [hd, this]

section
variable {W : World} {k : Nat} {o : Oper} {rest : List Oper} {a : Act} {d : Nat → Prop} {v : Value}

def rdUpon (P : Program) (w : World) (v : Value) : Result Next → Prop
  | .ok (.value u) w' => w' = w ∧ u = v
  | .ok (.enter f args) w' => w' = w ∧ Calls P f args w fun e w'' => e = .returned v ∧ Below w.heap.size w w''
  | _ => False

theorem rdUpon_value (P : Program) (w : World) (u v : Value) (w' : World) : rdUpon P w v (.ok (.value u) w') = (w' = w ∧ u = v) := rfl
theorem rdUpon_enter (P : Program) (w : World) (v : Value) (f : FuncId) (args : Array Value) (w' : World) : rdUpon P w v (.ok (.enter f args) w') = (w' = w ∧ Calls P f args w fun e w'' => e = .returned v ∧ Below w.heap.size w w'') := rfl
attribute [go_sem] rdUpon_value rdUpon_enter

theorem rd_cells {B : Nat} {W w : World} (h : Below B W w) : ∀ b o, b < B → w.cell? ⟨b, o, none⟩ = W.cell? ⟨b, o, none⟩ := fun b o hb => h.cell (p := ⟨b, o, none⟩) hb

theorem rd_size {B : Nat} {W w : World} (h : Below B W w) : W.heap.size ≤ w.heap.size := h.size

theorem rd_op (hw : Region.wanted o (yielded ops a.tmps) = true) (h : ∃ v, (∀ w, Below W.heap.size W w → rdUpon P w v ((execOp a.eval o).run P w)) ∧
    ∀ d a', a' = a.put o.dst v → (rd W).Lex P ops Q (k + 1) rest a' d) : (rd W).Lex P ops Q k (o :: rest) a d := by
  obtain ⟨v, h, hk⟩ := h
  refine ⟨?_⟩
  unfold Spec.lex
  rw [if_pos hw]
  refine ⟨v, fun a' hn w hK => ?_, (hk _ _ rfl).out⟩
  rw [hn.eq (fun _ => rfl)]
  have h1 := h w hK
  generalize (execOp a.eval o).run P w = r at *
  cases r with
  | ok n w' =>
    cases n <;> simp only [rdUpon] at h1 <;> simp only [Spec.okUpon]
    case value u => obtain ⟨rfl, rfl⟩ := h1; exact ⟨fun _ _ => ⟨fun _ => Veq.refl _, fun _ => rfl⟩, ⟨hK, fun _ h => h⟩, trivial⟩
    case enter f args =>
      obtain ⟨rfl, h1⟩ := h1
      exact h1.mono fun e w' ⟨he, hb⟩ => ⟨v, he, fun _ _ => ⟨fun _ => Veq.refl _, fun _ => rfl⟩, ⟨Below.trans hK (hb.mono hK.size), fun _ h => h⟩, trivial⟩
  | halt x w' => simp only [rdUpon] at h1

theorem rd_skip (hw : Region.wanted o (yielded ops a.tmps) = false) (hk : ∀ a', a' = a.put o.dst undef → (rd W).Lex P ops Q (k + 1) rest a' d) : (rd W).Lex P ops Q k (o :: rest) a d := by
  refine ⟨?_⟩
  unfold Spec.lex
  rw [if_neg (by rw [hw]; exact Bool.false_ne_true)]
  exact (hk _ rfl).out

theorem rd_end (h : ∀ w', Below W.heap.size W w' → Q .normal a w') : (rd W).Lex P ops Q k [] a d := ⟨fun a' hn w' hK _ => by
  rw [hn.eq (fun _ => rfl)]; exact h w' hK⟩
end

/-! ### Blocks that are known whole -/
def Blk (w : World) (k : Nat) (cs : Array Value) (t : TypeId) : Prop := w.heap[k]? = some (.cells cs t)

theorem Blk.lt {w : World} {k : Nat} {cs : Array Value} {t : TypeId} (h : Blk w k cs t) : k < w.heap.size := by
  rcases Nat.lt_or_ge k w.heap.size with h' | h'
  · exact h'
  · unfold Blk at h; rw [Array.getElem?_eq_none h'] at h; cases h

theorem Blk.cell {w : World} {k : Nat} {cs : Array Value} {t : TypeId} (h : Blk w k cs t) (i : Nat) : w.cell? ⟨k, i, none⟩ = cs[i]? := by
  unfold Blk at h; simp [World.cell?, h]

theorem Blk.free {w : World} {k : Nat} {cs : Array Value} {t : TypeId} (h : Blk w k cs t) (i : Nat) : w.frozen? ⟨k, i, none⟩ = false := by
  unfold Blk at h; simp [World.frozen?, h]

theorem Blk.keep {w w' : World} {k : Nat} {cs : Array Value} {t : TypeId} (h : Blk w k cs t) (hb : Below w.heap.size w w') : Blk w' k cs t :=
  (hb.block k h.lt).trans h

theorem Blk.keepB {B : Nat} {w w' : World} {k : Nat} {cs : Array Value} {t : TypeId} (h : Blk w k cs t) (hb : Below B w w') (hk : k < B) : Blk w' k cs t :=
  (hb.block k hk).trans h

theorem Blk.new (w : World) (cs : Array Value) (t : TypeId) : Blk (w.alloc (.cells cs t)) w.heap.size cs t := by
  show (w.heap.push _)[w.heap.size]? = _; simp

theorem Blk.old {w : World} {k : Nat} {cs : Array Value} {t : TypeId} (o : Obj) (h : Blk w k cs t) : Blk (w.alloc o) k cs t := by
  have hlt := h.lt
  show (w.heap.push o)[k]? = _; rw [Array.getElem?_push, if_neg (by omega)]; exact h

theorem Blk.drew {w : World} {k : Nat} {cs : Array Value} {t : TypeId} (h : Blk w k cs t) : Blk w.drew k cs t := h

theorem Blk.set {w : World} {k : Nat} {cs : Array Value} {t : TypeId} (h : Blk w k cs t) (i : Nat) (v : Value) : Blk (w.setCell ⟨k, i, none⟩ v) k (cs.setIfInBounds i v) t := by
  unfold Blk at *; simp [World.setCell, Array.getElem?_modify, h]

theorem Blk.other {w : World} {k j : Nat} {cs : Array Value} {t : TypeId} (h : Blk w k cs t) (i : Nat) (v : Value) (hn : j ≠ k) : Blk (w.setCell ⟨j, i, none⟩ v) k cs t := by
  unfold Blk at *; simp [World.setCell, Array.getElem?_modify, h, hn]

/-- What the call has made so far: below its first block the memory is as it was; these blocks are its own, known whole, apart from one another. -/
structure Own (w0 w : World) (l : List (Nat × Array Value × TypeId)) : Prop where
  below : Below w0.heap.size w0 w
  blk : ∀ x ∈ l, Blk w x.1 x.2.1 x.2.2 ∧ w0.heap.size ≤ x.1
  apart : l.Pairwise (fun x y => x.1 ≠ y.1)

theorem Own.nil (w : World) : Own w w [] := ⟨Below.refl _ _, fun _ h => (by cases h), .nil⟩
theorem Own.of_below {w0 w : World} (h : Below w0.heap.size w0 w) : Own w0 w [] := ⟨h, fun _ h => (by cases h), .nil⟩

theorem Own.size {w0 w : World} {l : List (Nat × Array Value × TypeId)} (h : Own w0 w l) : w0.heap.size ≤ w.heap.size := h.below.size

theorem Own.keep {w0 w w' : World} {l : List (Nat × Array Value × TypeId)} (h : Own w0 w l) (hb : Below w.heap.size w w') : Own w0 w' l :=
  ⟨h.below.trans (hb.mono h.size), fun x hx => ⟨(h.blk x hx).1.keep hb, (h.blk x hx).2⟩, h.apart⟩

theorem Own.drew {w0 w : World} {l : List (Nat × Array Value × TypeId)} (h : Own w0 w l) : Own w0 w.drew l := ⟨h.below.drew, h.blk, h.apart⟩

theorem Own.alloc {w0 w : World} {l : List (Nat × Array Value × TypeId)} (h : Own w0 w l) {k : Nat} (hk : k = w.heap.size) (cs : Array Value) (t : TypeId) :
    Own w0 (w.alloc (.cells cs t)) ((k, cs, t) :: l) := by
  subst hk
  refine ⟨h.below.alloc h.size _, fun x hx => ?_, ?_⟩
  · rcases List.mem_cons.1 hx with rfl | hx
    · exact ⟨Blk.new _ _ _, h.size⟩
    · exact ⟨(h.blk x hx).1.old _, (h.blk x hx).2⟩
  · exact List.pairwise_cons.2 ⟨fun x hx => Nat.ne_of_gt (h.blk x hx).1.lt, h.apart⟩

theorem Own.drop {w0 w : World} {x : Nat × Array Value × TypeId} {l : List (Nat × Array Value × TypeId)} (h : Own w0 w (x :: l)) : Own w0 w l :=
  ⟨h.below, fun y hy => h.blk y (List.mem_cons_of_mem _ hy), (List.pairwise_cons.1 h.apart).2⟩

theorem Own.swap {w0 w : World} {x y : Nat × Array Value × TypeId} {l : List (Nat × Array Value × TypeId)} (h : Own w0 w (x :: y :: l)) : Own w0 w (y :: x :: l) :=
  ⟨h.below, fun z hz => h.blk z (by simp only [List.mem_cons] at hz ⊢; rcases hz with hz | hz | hz <;> simp [hz]), by
    have := h.apart
    simp only [List.pairwise_cons, List.mem_cons, forall_eq_or_imp] at this ⊢
    exact ⟨⟨fun e => this.1.1 e.symm, this.2.1⟩, this.1.2, this.2.2⟩⟩

/-- A store into a block of one's own. -/
theorem Own.set {w0 w : World} {l : List (Nat × Array Value × TypeId)} {k : Nat} {cs : Array Value} {t : TypeId} (h : Own w0 w ((k, cs, t) :: l)) (i : Nat) (v : Value) :
    Own w0 (w.setCell ⟨k, i, none⟩ v) ((k, cs.setIfInBounds i v, t) :: l) := by
  have hk := h.blk _ List.mem_cons_self
  have hp := List.pairwise_cons.1 h.apart
  refine ⟨h.below.setCell hk.2 _, fun x hx => ?_, List.pairwise_cons.2 ⟨hp.1, hp.2⟩⟩
  rcases List.mem_cons.1 hx with rfl | hx
  · exact ⟨hk.1.set _ _, hk.2⟩
  · exact ⟨(h.blk x (List.mem_cons_of_mem _ hx)).1.other _ _ (hp.1 x hx), (h.blk x (List.mem_cons_of_mem _ hx)).2⟩

def aparts (k : Nat) : List (Nat × Array Value × TypeId) → Prop
  | [] => True
  | (j, _, _) :: l => (¬ k = j ∧ ¬ j = k) ∧ aparts k l

def rules (w0 w : World) : List (Nat × Array Value × TypeId) → Prop
  | [] => w0.heap.size ≤ w.heap.size
  | (k, cs, _) :: l => (∀ i, w.cell? ⟨k, i, none⟩ = cs[i]?) ∧ (∀ i, w.frozen? ⟨k, i, none⟩ = false) ∧ k < w.heap.size ∧ w0.heap.size ≤ k ∧ aparts k l ∧ rules w0 w l

theorem aparts_of {k : Nat} : ∀ {l : List (Nat × Array Value × TypeId)}, (∀ x ∈ l, k ≠ x.1) → aparts k l
  | [], _ => trivial
  | x :: _, h => ⟨⟨h x List.mem_cons_self, fun e => h x List.mem_cons_self e.symm⟩, aparts_of fun y hy => h y (List.mem_cons_of_mem _ hy)⟩

theorem Own.rules {w0 w : World} : ∀ {l : List (Nat × Array Value × TypeId)}, Own w0 w l → rules w0 w l
  | [], h => h.size
  | x :: _, h => ⟨(h.blk x List.mem_cons_self).1.cell, (h.blk x List.mem_cons_self).1.free, (h.blk x List.mem_cons_self).1.lt, (h.blk x List.mem_cons_self).2,
      aparts_of (List.pairwise_cons.1 h.apart).1, Own.rules h.drop⟩

/-! ### Regions that also store, each cell once, into one block of one's own -/
def rs (w0 : World) (l : List (Nat × Array Value × TypeId)) (k : Nat) (t : TypeId) (cs0 : Array Value) (D : List Nat) (F : List (Nat × Nat × Value)) : Spec where
  K w := ∃ cs : Array Value, cs.size = cs0.size ∧ (∀ i, i ∉ D → cs[i]? = cs0[i]?) ∧ Own w0 w ((k, cs, t) :: l)
  Phi j w := ∀ x ∈ F, x.1 = j → w.cell? ⟨k, x.2.1, none⟩ = some x.2.2
  S _ := false

section
variable {w0 : World} {l : List (Nat × Array Value × TypeId)} {k : Nat} {t : TypeId} {cs0 : Array Value} {D : List Nat} {F : List (Nat × Nat × Value)}
variable {n : Nat} {o : Oper} {rest : List Oper} {a : Act} {d : Nat → Prop} {v : Value}

theorem rs_start {w : World} (h : Own w0 w ((k, cs0, t) :: l)) : (rs w0 l k t cs0 D F).K w.drew := ⟨cs0, rfl, fun _ _ => rfl, h.drew⟩

/-- A value, or a call that makes memory of its own alone. -/
theorem rs_op (hF : ∀ x ∈ F, x.1 ≠ n) (hw : Region.wanted o (yielded ops a.tmps) = true) (h : ∃ v, (∀ w, rules w0 w l → rdUpon P w v ((execOp a.eval o).run P w)) ∧
    ∀ a', a' = a.put o.dst v → (rs w0 l k t cs0 D F).Lex P ops Q (n + 1) rest a' (fun j => j = n ∨ d j)) : (rs w0 l k t cs0 D F).Lex P ops Q n (o :: rest) a d := by
  obtain ⟨v, h, hk⟩ := h
  refine ⟨?_⟩
  unfold Spec.lex
  rw [if_pos hw]
  refine ⟨v, fun a' hn w hK => ?_, (hk _ rfl).out⟩
  rw [hn.eq (fun _ => rfl)]
  obtain ⟨cs, h1, h2, hO⟩ := hK
  have h3 := h w hO.drop.rules
  generalize (execOp a.eval o).run P w = r at *
  have hph : ∀ w', (rs w0 l k t cs0 D F).Phi n w' := fun w' x hx e => (hF x hx e).elim
  cases r with
  | ok nx w' =>
    cases nx <;> simp only [rdUpon] at h3 <;> simp only [Spec.okUpon]
    case value u => obtain ⟨rfl, rfl⟩ := h3; exact ⟨fun _ _ => ⟨fun _ => Veq.refl _, fun _ => rfl⟩, ⟨⟨cs, h1, h2, hO⟩, fun _ h => h⟩, hph _⟩
    case enter f args =>
      obtain ⟨rfl, h3⟩ := h3
      refine h3.mono fun e w'' ⟨he, hb⟩ => ⟨v, he, fun _ _ => ⟨fun _ => Veq.refl _, fun _ => rfl⟩, ⟨⟨cs, h1, h2, hO.keep hb⟩, fun j hj x hx e => ?_⟩, hph _⟩
      have hc := hj x hx e
      rw [hb.cell (World.block_lt_of_cell? _ _ hc)]; exact hc
  | halt x w' => simp only [rdUpon] at h3

theorem rs_skip (hw : Region.wanted o (yielded ops a.tmps) = false) (hk : ∀ a', a' = a.put o.dst undef → (rs w0 l k t cs0 D F).Lex P ops Q (n + 1) rest a' d) : (rs w0 l k t cs0 D F).Lex P ops Q n (o :: rest) a d := by
  refine ⟨?_⟩
  unfold Spec.lex
  rw [if_neg (by rw [hw]; exact Bool.false_ne_true)]
  exact (hk _ rfl).out

/-- A store of one cell. -/
theorem rs_store (hw : Region.wanted o (yielded ops a.tmps) = true) (off : Nat) (v : Value) (hd : o.dst = none) (hoff : off < cs0.size) (hD : off ∈ D)
    (hF : ∀ x ∈ F, x.1 = n → x.2.1 = off ∧ x.2.2 = v) (hF2 : ∀ x ∈ F, x.1 ≠ n → x.2.1 ≠ off)
    (h : ∀ w u, w.cell? ⟨k, off, none⟩ = some u → w.frozen? ⟨k, off, none⟩ = false → rules w0 w l → (execOp a.eval o).run P w = .ok .skip (w.setCell ⟨k, off, none⟩ v))
    (hk : (rs w0 l k t cs0 D F).Lex P ops Q (n + 1) rest a (fun j => j = n ∨ d j)) : (rs w0 l k t cs0 D F).Lex P ops Q n (o :: rest) a d := by
  refine ⟨?_⟩
  unfold Spec.lex
  rw [if_pos hw]
  refine ⟨undef, fun a' hn w hK => ?_, by rw [hd]; exact hk.out⟩
  rw [hn.eq (fun _ => rfl)]
  obtain ⟨cs, h1, h2, hO⟩ := hK
  obtain ⟨r1, r2, r3⟩ := hO.rules
  have hcell : w.cell? ⟨k, off, none⟩ = some cs[off] := by rw [r1, Array.getElem?_eq_getElem (by omega)]
  rw [h w _ hcell (r2 _) hO.drop.rules]
  have hset := hO.set off v
  refine ⟨(fun dd e => by rw [hd] at e; cases e), ⟨⟨_, by simpa using h1, fun i hi => ?_, hset⟩, fun j hj x hx e => ?_⟩, fun x hx e => ?_⟩
  · have hne : off ≠ i := fun e => hi (e ▸ hD)
    rw [Array.getElem?_setIfInBounds_ne hne]; exact h2 i hi
  · have hc := hj x hx e
    by_cases hjn : x.1 = n
    · obtain ⟨e1, e2⟩ := hF x hx hjn
      rw [e1, e2, hset.rules.1, Array.getElem?_setIfInBounds_self_of_lt (by omega)]
    · have hne : ({ block := k, off := off, spot := none } : Addr) ≠ ⟨k, x.2.1, none⟩ := fun e => hF2 x hx hjn (by injection e with _ e2; exact e2.symm)
      rw [World.cell?_setCell_other _ _ _ _ hne]; exact hc
  · obtain ⟨e1, e2⟩ := hF x hx e
    rw [e1, e2, hset.rules.1, Array.getElem?_setIfInBounds_self_of_lt (by omega)]

/-- Two lists are one but at the places of D. -/
def agree (D : List Nat) : Nat → List Value → List Value → Prop
  | _, [], [] => True
  | i, x :: xs, y :: ys => (i ∈ D ∨ x = y) ∧ agree D (i + 1) xs ys
  | _, _, _ => False

theorem agree_spec {D : List Nat} : ∀ {k : Nat} {xs ys : List Value}, agree D k xs ys → ∀ i, k + i ∉ D → xs[i]? = ys[i]?
  | _, [], [], _, _, _ => rfl
  | _, [], _ :: _, h, _, _ => h.elim
  | _, _ :: _, [], h, _, _ => h.elim
  | k, x :: xs, y :: ys, h, 0, hi => by
    rcases h.1 with h1 | h1
    · exact (hi h1).elim
    · simp [h1]
  | k, x :: xs, y :: ys, h, i + 1, hi => by
    simp only [List.getElem?_cons_succ]
    exact agree_spec h.2 i (by rwa [Nat.add_assoc, Nat.add_comm 1 i])

theorem rs_end (cs1 : Array Value) (h0' : agree D 0 cs1.toList cs0.toList) (h1 : ∀ i ∈ D, ∃ x ∈ F, d x.1 ∧ x.2.1 = i ∧ cs1[i]? = some x.2.2)
    (h : ∀ w', Own w0 w' ((k, cs1, t) :: l) → Q .normal a w') : (rs w0 l k t cs0 D F).Lex P ops Q n [] a d := by
  refine ⟨fun a' hn w' hK hdone => ?_⟩
  rw [hn.eq (fun _ => rfl)]
  obtain ⟨cs, e1, e2, hO⟩ := hK
  have h0 : ∀ i, i ∉ D → cs1[i]? = cs0[i]? := fun i hi => by
    have := agree_spec h0' i (by simpa using hi)
    simpa using this
  have : cs = cs1 := by
    apply Array.ext_getElem?
    intro i
    by_cases hi : i ∈ D
    · obtain ⟨x, hx, hd, rfl, hv⟩ := h1 i hi
      rw [hv]; have := hdone x.1 hd x hx rfl
      rw [hO.rules.1] at this; exact this
    · rw [e2 i hi, h0 i hi]
  subst this
  exact h w' hO
end

theorem wp_region_rd {id : Nat} {a : Act} {W : World} {l : List Oper} (hm : P.follows .mixedOrders = true) (hB : Region.lexB .any l.toArray = true)
    (h : ∀ d, (rd W).Lex P l.toArray Q 0 l a d) : (Code.region id l.toArray true).wp P Q a W :=
  wp_region_lex (rd W) hm hB (Below.drew (Below.refl _ _)) (h _)

end Go.Reg
