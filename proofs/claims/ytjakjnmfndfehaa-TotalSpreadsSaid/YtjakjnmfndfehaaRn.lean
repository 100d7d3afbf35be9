/- Regions that draw their order and reckon with floats that may be no numbers: the slots of L are known up to which no number they are. No condition. -/
import Derived.Test.YtjakjnmfndfehaaReg
import Derived.StillTailTactics
namespace Go.Reg
open Go Go.RowKit
set_option linter.unusedVariables false

theorem execOp_agree {a b : Act} (o : Oper) (hs : ∀ cs d, o.op ≠ .select cs d) (h : ∀ t, Operand.tmp t ∈ o.op.operands → a.tmps.getD t undef = b.tmps.getD t undef) :
    execOp a.eval o = execOp b.eval o := by
  refine execOp_congr o hs fun x hx => ?_
  cases x with
  | tmp t => exact h t hx
  | _ => rfl

/-- The operands of an operation that are known only so. -/
def hot (L : List Tmp) (o : Oper) : List Tmp := o.op.operands.toList.filterMap fun | .tmp t => if L.contains t then some t else none | _ => none
def hotD (L : List Tmp) (o : Oper) : Bool := match o.dst with | some d => L.contains d | none => false
def noSel (o : Oper) : Bool := match o.op with | .select .. => false | _ => true

theorem noSel_spec {o : Oper} (h : noSel o = true) : ∀ cs d, o.op ≠ .select cs d := fun cs d e => by unfold noSel at h; rw [e] at h; cases h

theorem hot_mem {L : List Tmp} {o : Oper} {t : Tmp} (h : Operand.tmp t ∈ o.op.operands) (ht : L.contains t = true) : t ∈ hot L o := by
  unfold hot
  refine List.mem_filterMap.2 ⟨.tmp t, by simpa using h, ?_⟩
  simp only [ht, if_true]

theorem getD_put (a : Act) (t i : Nat) (u : Value) : (a.put (some t) u).tmps.getD i undef = if i = t ∧ t < a.tmps.size then u else a.tmps.getD i undef := by
  simp only [Act.put]; exact getD_set _ _ _ _

theorem getD_ge (xs : Array Value) (t : Nat) (h : ¬ t < xs.size) : xs.getD t undef = undef := by
  simp [Array.getD_eq_getD_getElem?, Array.getElem?_eq_none (Nat.le_of_not_lt h)]

def rnUpon (P : Program) (w : World) (hd : Bool) (v : Value) : Result Next → Prop
  | .ok (.value u) w' => Below w.heap.size w w' ∧ (u = v ∨ (hd = true ∧ Veq u v))
  | .ok (.enter f args) w' => w' = w ∧ Calls P f args w fun e w'' => ∃ u, e = .returned u ∧ (u = v ∨ (hd = true ∧ Veq u v)) ∧ Below w.heap.size w w''
  | _ => False

/-- The class: below the first world's size the memory is as the first world has it. -/
def rn (W : World) (L : List Tmp) : Spec := ⟨fun w => Below W.heap.size W w, fun _ _ => True, fun d => L.contains d⟩

/-- The class: the same, but that one cell has been written or not, with a value that is known up to which no number it is. -/
def stored (W : World) (p : Addr) (v : Value) (w : World) : Prop := ∃ u, Veq u v ∧ Below W.heap.size (W.setCell p u) w
def sn (W : World) (L : List Tmp) (p : Addr) (v : Value) (n : Nat) : Spec :=
  ⟨fun w => Below W.heap.size W w ∨ stored W p v w, fun j w => j = n → stored W p v w, fun d => L.contains d⟩

structure Class (s : Spec) (L : List Tmp) : Prop where
  S : ∀ d, s.S d = L.contains d
  keep : ∀ w w', s.K w → Below w.heap.size w w' → s.keep w w'

section
variable {s : Spec} {L : List Tmp} {P : Program} {ops : Array Oper} {Q : Exit → Act → World → Prop} {W : World} {k : Nat} {o : Oper} {rest : List Oper} {a : Act} {d : Nat → Prop} {v : Value}

theorem rn_class : Class (rn W L) L := ⟨fun _ => rfl, fun _ _ hK hb => ⟨hK.trans (hb.mono hK.size), fun _ h => h⟩⟩

theorem stored_keep {p : Addr} {w w' : World} (h : stored W p v w) (hb : Below w.heap.size w w') : stored W p v w' := by
  obtain ⟨u, h1, h2⟩ := h
  exact ⟨u, h1, h2.trans (hb.mono (by simpa using h2.size))⟩

theorem sn_class {p : Addr} {n : Nat} : Class (sn W L p v n) L :=
  ⟨fun _ => rfl, fun _ _ hK hb => ⟨hK.imp (fun h => h.trans (hb.mono h.size)) (fun h => stored_keep h hb), fun _ h e => stored_keep (h e) hb⟩⟩

theorem okUpon_of_rn (hC : Class s L) {w : World} (hK : s.K w) (hph : ∀ w', s.K w' → s.Phi k w') {r : Result Next} (h : rnUpon P w (hotD L o) v r) : s.okUpon P w k o.dst v r := by
  have like : ∀ u, (u = v ∨ (hotD L o = true ∧ Veq u v)) → s.like o.dst u v := fun u hu dd hdd => by
    rcases hu with rfl | ⟨h1, h2⟩
    · exact ⟨fun _ => Veq.refl _, fun _ => rfl⟩
    · refine ⟨fun _ => h2, fun h3 => ?_⟩
      unfold hotD at h1; rw [hdd] at h1; simp only at h1
      rw [hC.S, h1] at h3; cases h3
  cases r with
  | ok n w' =>
    cases n <;> simp only [rnUpon] at h <;> simp only [Spec.okUpon]
    case value u =>
      have hk := hC.keep _ _ hK h.1
      exact ⟨like _ h.2, hk, hph _ hk.1⟩
    case enter f args =>
      obtain ⟨rfl, h1⟩ := h
      refine h1.mono fun e w'' ⟨u, he, h2, hb⟩ => ?_
      have hk := hC.keep _ _ hK hb
      exact ⟨u, he, like _ h2, hk, hph _ hk.1⟩
  | halt x w' => simp only [rnUpon] at h

/-- An operation whose operands are known. -/
theorem op0 (hC : Class s L) (hph : ∀ w', s.K w' → s.Phi k w') (hw : Region.wanted o (yielded ops a.tmps) = true) (hs : noSel o = true) (hh : hot L o = [])
    (h : ∃ v, (∀ w, s.K w → rnUpon P w (hotD L o) v ((execOp a.eval o).run P w)) ∧ ∀ a', a' = a.put o.dst v → s.Lex P ops Q (k + 1) rest a' (fun j => j = k ∨ d j)) : s.Lex P ops Q k (o :: rest) a d := by
  obtain ⟨v, h, hk⟩ := h
  refine ⟨?_⟩
  unfold Spec.lex
  rw [if_pos hw]
  refine ⟨v, fun a' hn w hK => ?_, (hk _ rfl).out⟩
  have e : execOp a'.eval o = execOp a.eval o := execOp_agree o (noSel_spec hs) fun t ht => (hn.slot t).2 (by
    rw [hC.S]
    cases hc : L.contains t
    · rfl
    · have := hot_mem ht hc; rw [hh] at this; cases this)
  rw [e]
  exact okUpon_of_rn hC hK hph (h w hK)

theorem rn_of_rd {w : World} {hd : Bool} {r : Result Next} (h : rdUpon P w v r) : rnUpon P w hd v r := by
  cases r with
  | ok n w' =>
    cases n <;> simp only [rdUpon] at h <;> simp only [rnUpon]
    case value u => obtain ⟨rfl, rfl⟩ := h; exact ⟨Below.refl _ _, .inl rfl⟩
    case enter f args => obtain ⟨rfl, h1⟩ := h; exact ⟨rfl, h1.mono fun e w'' ⟨he, hb⟩ => ⟨v, he, .inl rfl, hb⟩⟩
  | halt x w' => simp only [rdUpon] at h

theorem op0e (hC : Class s L) (hph : ∀ w', s.K w' → s.Phi k w') (hw : Region.wanted o (yielded ops a.tmps) = true) (hs : noSel o = true) (hh : hot L o = [])
    (h : ∃ v, (∀ w, s.K w → rdUpon P w v ((execOp a.eval o).run P w)) ∧ ∀ a', a' = a.put o.dst v → s.Lex P ops Q (k + 1) rest a' (fun j => j = k ∨ d j)) : s.Lex P ops Q k (o :: rest) a d := by
  obtain ⟨v, h, hk⟩ := h
  exact op0 hC hph hw hs hh ⟨v, fun w hK => rn_of_rd (h w hK), hk⟩

/-- An operation with one operand that is known only so. -/
theorem op1 (hC : Class s L) (hph : ∀ w', s.K w' → s.Phi k w') (hw : Region.wanted o (yielded ops a.tmps) = true) (hs : noSel o = true) (t1 : Tmp) (v1 : Value)
    (hh : hot L o = [t1]) (h1 : a.tmps.getD t1 undef = v1)
    (h : ∃ v, (∀ u1, Veq u1 v1 → ∀ w, s.K w → rnUpon P w (hotD L o) v ((execOp (a.put (some t1) u1).eval o).run P w)) ∧ ∀ a', a' = a.put o.dst v → s.Lex P ops Q (k + 1) rest a' (fun j => j = k ∨ d j)) :
    s.Lex P ops Q k (o :: rest) a d := by
  obtain ⟨v, h, hk⟩ := h
  refine ⟨?_⟩
  unfold Spec.lex
  rw [if_pos hw]
  refine ⟨v, fun a' hn w hK => ?_, (hk _ rfl).out⟩
  have hv : Veq (a'.tmps.getD t1 undef) v1 := by
    rw [← h1]
    cases hS : s.S t1
    · rw [(hn.slot t1).2 hS]; exact Veq.refl _
    · exact (hn.slot t1).1 hS
  have e : execOp a'.eval o = execOp (a.put (some t1) (a'.tmps.getD t1 undef)).eval o := execOp_agree o (noSel_spec hs) fun t ht => by
    rw [getD_put]
    by_cases ht1 : t = t1
    · subst ht1
      by_cases hsz : t < a.tmps.size
      · rw [if_pos ⟨rfl, hsz⟩]
      · rw [if_neg (by simp [hsz]), getD_ge _ _ hsz, getD_ge _ _ (by rw [hn.size]; exact hsz)]
    · rw [if_neg (by simp [ht1])]
      refine (hn.slot t).2 ?_
      rw [hC.S]
      cases hc : L.contains t
      · rfl
      · exact absurd (by have := hot_mem ht hc; rw [hh] at this; simpa using this) ht1
  rw [e]
  exact okUpon_of_rn hC hK hph (h _ hv w hK)

/-- An operation with two operands that are known only so. -/
theorem op2 (hC : Class s L) (hph : ∀ w', s.K w' → s.Phi k w') (hw : Region.wanted o (yielded ops a.tmps) = true) (hs : noSel o = true) (t1 t2 : Tmp) (v1 v2 : Value)
    (hh : hot L o = [t1, t2]) (h1 : a.tmps.getD t1 undef = v1) (h2 : a.tmps.getD t2 undef = v2)
    (h : ∃ v, (∀ u1 u2, Veq u1 v1 → Veq u2 v2 → ∀ w, s.K w → rnUpon P w (hotD L o) v ((execOp ((a.put (some t1) u1).put (some t2) u2).eval o).run P w)) ∧
      ∀ a', a' = a.put o.dst v → s.Lex P ops Q (k + 1) rest a' (fun j => j = k ∨ d j)) :
    s.Lex P ops Q k (o :: rest) a d := by
  obtain ⟨v, h, hk⟩ := h
  refine ⟨?_⟩
  unfold Spec.lex
  rw [if_pos hw]
  refine ⟨v, fun a' hn w hK => ?_, (hk _ rfl).out⟩
  have hv : ∀ t v, a.tmps.getD t undef = v → Veq (a'.tmps.getD t undef) v := fun t v ht => by
    rw [← ht]
    cases hS : s.S t
    · rw [(hn.slot t).2 hS]; exact Veq.refl _
    · exact (hn.slot t).1 hS
  have e : execOp a'.eval o = execOp ((a.put (some t1) (a'.tmps.getD t1 undef)).put (some t2) (a'.tmps.getD t2 undef)).eval o := execOp_agree o (noSel_spec hs) fun t ht => by
    have hsz2 : (a.put (some t1) (a'.tmps.getD t1 undef)).tmps.size = a.tmps.size := by simp [Act.put]
    rw [getD_put, getD_put, hsz2]
    by_cases ht2 : t = t2
    · subst ht2
      by_cases hsz : t < a.tmps.size
      · rw [if_pos ⟨rfl, hsz⟩]
      · rw [if_neg (by simp [hsz]), getD_ge a'.tmps _ (by rw [hn.size]; exact hsz)]
        by_cases ht1 : t = t1
        · rw [if_neg (by rw [← ht1]; simp [hsz]), getD_ge _ _ hsz]
        · rw [if_neg (by simp [ht1]), getD_ge _ _ hsz]
    · rw [if_neg (by simp [ht2])]
      by_cases ht1 : t = t1
      · subst ht1
        by_cases hsz : t < a.tmps.size
        · rw [if_pos ⟨rfl, hsz⟩]
        · rw [if_neg (by simp [hsz]), getD_ge _ _ hsz, getD_ge _ _ (by rw [hn.size]; exact hsz)]
      · rw [if_neg (by simp [ht1])]
        refine (hn.slot t).2 ?_
        rw [hC.S]
        cases hc : L.contains t
        · rfl
        · have hm : t = t1 ∨ t = t2 := by have := hot_mem ht hc; rw [hh] at this; simpa using this
          rcases hm with e | e
          · exact absurd e ht1
          · exact absurd e ht2
  rw [e]
  exact okUpon_of_rn hC hK hph (h _ _ (hv _ _ h1) (hv _ _ h2) w hK)

theorem skipN (hw : Region.wanted o (yielded ops a.tmps) = false) (hk : ∀ a', a' = a.put o.dst undef → s.Lex P ops Q (k + 1) rest a' d) : s.Lex P ops Q k (o :: rest) a d := by
  refine ⟨?_⟩
  unfold Spec.lex
  rw [if_neg (by rw [hw]; exact Bool.false_ne_true)]
  exact (hk _ rfl).out

theorem setCell_twice (w : World) (p : Addr) (u v : Value) (hp : p.spot = none) : (w.setCell p u).setCell p v = w.setCell p v := by
  unfold World.setCell
  simp only
  congr 1
  apply Array.ext_getElem?
  intro i
  simp only [Array.getElem?_modify]
  by_cases hi : p.block = i
  · simp only [hi, if_true]
    cases w.heap[i]? with
    | none => rfl
    | some o => cases o <;> simp [hp]
  · simp only [hi, if_false]

theorem below_both {B : Nat} {W w : World} (h : Below B W w) (p : Addr) (u : Value) (hp : p.block < B) : Below B (W.setCell p u) (w.setCell p u) :=
  ⟨h.os, h.tape, h.output, by simpa [World.setCell] using h.size, fun k hk => by
    by_cases hkp : k = p.block
    · subst hkp
      have := h.block _ hp
      simp only [World.setCell, Array.getElem?_modify, if_true, this]
    · rw [Below.heap_setCell _ _ _ _ hkp, Below.heap_setCell _ _ _ _ hkp]; exact h.block k hk⟩

theorem size_setCell (w : World) (p : Addr) (u : Value) : (w.setCell p u).heap.size = w.heap.size := by simp [World.setCell]

/-- The store of a value that is known only so. -/
theorem sn_store {p : Addr} {c0 : Value} (hw : Region.wanted o (yielded ops a.tmps) = true) (hs : noSel o = true) (hdst : o.dst = none) (t1 : Tmp) (hh : hot L o = [t1]) (h1 : a.tmps.getD t1 undef = v)
    (hp : p.spot = none) (hpb : p.block < W.heap.size) (hc : W.cell? p = some c0) (hf : W.frozen? p = false)
    (h : ∀ u1, Veq u1 v → ∀ w c, w.cell? p = some c → w.frozen? p = false → (sn W L p v k).K w → (execOp (a.put (some t1) u1).eval o).run P w = .ok .skip (w.setCell p u1))
    (hk : (sn W L p v k).Lex P ops Q (k + 1) rest a (fun j => j = k ∨ d j)) : (sn W L p v k).Lex P ops Q k (o :: rest) a d := by
  refine ⟨?_⟩
  unfold Spec.lex
  rw [if_pos hw]
  refine ⟨undef, fun a' hn w hK => ?_, by rw [hdst]; exact hk.out⟩
  have hv : Veq (a'.tmps.getD t1 undef) v := by
    rw [← h1]
    cases hS : (sn W L p v k).S t1
    · rw [(hn.slot t1).2 hS]; exact Veq.refl _
    · exact (hn.slot t1).1 hS
  have e : execOp a'.eval o = execOp (a.put (some t1) (a'.tmps.getD t1 undef)).eval o := execOp_agree o (noSel_spec hs) fun t ht => by
    rw [getD_put]
    by_cases ht1 : t = t1
    · subst ht1
      by_cases hsz : t < a.tmps.size
      · rw [if_pos ⟨rfl, hsz⟩]
      · rw [if_neg (by simp [hsz]), getD_ge _ _ hsz, getD_ge _ _ (by rw [hn.size]; exact hsz)]
    · rw [if_neg (by simp [ht1])]
      refine (hn.slot t).2 ?_
      show L.contains t = false
      cases hc : L.contains t
      · rfl
      · exact absurd (by have := hot_mem ht hc; rw [hh] at this; simpa using this) ht1
  rw [e]
  have hcell : ∃ c, w.cell? p = some c := by
    rcases hK with hK | ⟨u, _, hK⟩
    · exact ⟨c0, by rw [hK.cell hpb]; exact hc⟩
    · exact ⟨u, by rw [hK.cell hpb]; exact World.cell?_setCell_same _ _ _ hc⟩
  have hfr : w.frozen? p = false := by
    rcases hK with hK | ⟨u, _, hK⟩
    · rw [hK.frozen hpb]; exact hf
    · rw [hK.frozen hpb, ← hf]; simp
  obtain ⟨c, hcc⟩ := hcell
  rw [h _ hv w c hcc hfr hK]
  have hst : stored W p v (w.setCell p (a'.tmps.getD t1 undef)) := by
    refine ⟨_, hv, ?_⟩
    rcases hK with hK | ⟨u, _, hK⟩
    · exact below_both hK p _ hpb
    · have := below_both (B := W.heap.size) hK p (a'.tmps.getD t1 undef) hpb
      rwa [setCell_twice _ _ _ _ hp] at this
  exact ⟨(fun dd e => by rw [hdst] at e; cases e), ⟨.inr hst, fun j _ e => hst⟩, fun e => hst⟩

/-- What holds of every frame whose slots of L are near. -/
def ends (Q : Act → Prop) : List Tmp → Act → Prop
  | [], a => Q a
  | t :: l, a => ∀ u, Veq u (a.tmps.getD t undef) → ends Q l (a.put (some t) u)

theorem ends_near (hC : ∀ d, s.S d = true → d ∈ L) {R : Act → Prop} : ∀ {a' a : Act}, a'.defers = a.defers → a'.tmps.size = a.tmps.size →
    (∀ i, (i ∈ L → Veq (a'.tmps.getD i undef) (a.tmps.getD i undef)) ∧ (i ∉ L → a'.tmps.getD i undef = a.tmps.getD i undef)) → ends R L a → R a' := by
  clear hC
  induction L with
  | nil =>
    intro a' a h1 h2 h3 h
    obtain ⟨t', d'⟩ := a'
    obtain ⟨t, d⟩ := a
    have hd : d' = d := h1
    have hs : t'.size = t.size := h2
    have : t' = t := by
      apply Array.ext hs
      intro i hi1 hi2
      have := (h3 i).2 (by simp)
      simpa [Array.getD_eq_getD_getElem?, hi1, hi2] using this
    rw [hd, this]; exact h
  | cons t l ih =>
    intro a' a h1 h2 h3 h
    have hsz : (a.put (some t) (a'.tmps.getD t undef)).tmps.size = a.tmps.size := by simp [Act.put]
    refine ih (a := a.put (some t) (a'.tmps.getD t undef)) h1 (by rw [hsz]; exact h2) (fun i => ?_) (h _ ((h3 t).1 (by simp)))
    rw [getD_put]
    by_cases hi : i = t
    · subst hi
      by_cases hs : i < a.tmps.size
      · rw [if_pos ⟨rfl, hs⟩]; exact ⟨fun _ => Veq.refl _, fun _ => rfl⟩
      · rw [if_neg (by simp [hs]), getD_ge _ _ hs, getD_ge _ _ (by rw [h2]; exact hs)]; exact ⟨fun _ => Veq.refl _, fun _ => rfl⟩
    · rw [if_neg (by simp [hi])]
      exact ⟨fun hl => (h3 i).1 (by simp [hl]), fun hl => (h3 i).2 (by simp [hl, hi])⟩

def endv (Q : Act → Prop) : List (Tmp × Value) → Act → Prop
  | [], a => Q a
  | (t, v) :: l, a => a.tmps.getD t undef = v ∧ ∀ u, Veq u v → endv Q l (a.put (some t) u)

theorem ends_of_endv {R : Act → Prop} : ∀ {l : List (Tmp × Value)} {a : Act}, endv R l a → ends R (l.map (·.1)) a
  | [], _, h => h
  | (t, v) :: l, a, h => fun u hu => ends_of_endv (h.2 u (by rw [← h.1]; exact hu))

theorem rn_endv (l : List (Tmp × Value)) (hl : l.map (·.1) = L) (h : ∀ w', Below W.heap.size W w' → endv (fun a => Q .normal a w') l a) : (rn W L).Lex P ops Q k [] a d := by
  refine ⟨fun a' hn w' hK _ => ?_⟩
  refine ends_near (s := rn W L) (L := L) (fun d hd => by simpa [rn] using hd) hn.defers hn.size (fun i => ⟨fun hi => (hn.slot i).1 (by simpa [rn] using hi), fun hi => (hn.slot i).2 (by simpa [rn] using hi)⟩)
    (by have := ends_of_endv (h w' hK); rwa [hl] at this)

theorem rn_end (h : ∀ w', Below W.heap.size W w' → ends (fun a => Q .normal a w') L a) : (rn W L).Lex P ops Q k [] a d := by
  refine ⟨fun a' hn w' hK _ => ?_⟩
  refine ends_near (s := rn W L) (L := L) (fun d hd => by simpa [rn] using hd) hn.defers hn.size (fun i => ⟨fun hi => (hn.slot i).1 (by simpa [rn] using hi), fun hi => (hn.slot i).2 (by simpa [rn] using hi)⟩) (h w' hK)

theorem sn_endv {p : Addr} {n : Nat} (l : List (Tmp × Value)) (hl : l.map (·.1) = L) (hd : d n) (h : ∀ u w', Veq u v → Below W.heap.size (W.setCell p u) w' → endv (fun a => Q .normal a w') l a) : (sn W L p v n).Lex P ops Q k [] a d := by
  refine ⟨fun a' hn w' _ hdone => ?_⟩
  obtain ⟨u, h1, h2⟩ := hdone n hd rfl
  exact ends_near (s := sn W L p v n) (L := L) (fun d hd => by simpa [sn] using hd) hn.defers hn.size (fun i => ⟨fun hi => (hn.slot i).1 (by simpa [sn] using hi), fun hi => (hn.slot i).2 (by simpa [sn] using hi)⟩)
    (by have := ends_of_endv (h u w' h1 h2); rwa [hl] at this)

theorem sn_end {p : Addr} {n : Nat} (hd : d n) (h : ∀ u w', Veq u v → Below W.heap.size (W.setCell p u) w' → ends (fun a => Q .normal a w') L a) : (sn W L p v n).Lex P ops Q k [] a d := by
  refine ⟨fun a' hn w' _ hdone => ?_⟩
  obtain ⟨u, h1, h2⟩ := hdone n hd rfl
  exact ends_near (s := sn W L p v n) (L := L) (fun d hd => by simpa [sn] using hd) hn.defers hn.size (fun i => ⟨fun hi => (hn.slot i).1 (by simpa [sn] using hi), fun hi => (hn.slot i).2 (by simpa [sn] using hi)⟩) (h u w' h1 h2)

end

theorem wp_region_rn {P : Program} {Q : Exit → Act → World → Prop} {id : Nat} {a : Act} {W : World} {l : List Oper} (L : List Tmp) (hm : P.follows .mixedOrders = true) (hB : Region.lexB .any l.toArray = true)
    (h : ∀ d, (rn W L).Lex P l.toArray Q 0 l a d) : (Code.region id l.toArray true).wp P Q a W :=
  wp_region_lex (rn W L) hm hB (Below.drew (Below.refl _ _)) (h _)

theorem wp_region_sn {P : Program} {Q : Exit → Act → World → Prop} {id : Nat} {a : Act} {W : World} {l : List Oper} (L : List Tmp) (p : Addr) (v : Value) (n : Nat) (hm : P.follows .mixedOrders = true) (hB : Region.lexB .any l.toArray = true)
    (h : (sn W L p v n).Lex P l.toArray Q 0 l a (fun _ => False)) : (Code.region id l.toArray true).wp P Q a W :=
  wp_region_lex (sn W L p v n) hm hB (.inl (Below.drew (Below.refl _ _))) h

theorem wp_region_tail {P : Program} {Q : Exit → Act → World → Prop} {id : Nat} {a : Act} {w : World} {l : List Oper} (n : Nat) (hm : P.follows .mixedOrders = true) (hB : Region.lexTailB .any l.toArray n = true)
    (h : wpStill P l.toArray w.drew (fun a' => wpList P l.toArray Q (l.drop n) a' w.drew) (l.take n) a) : (Code.region id l.toArray true).wp P Q a w :=
  wp_region_still_tail n hm hB h

section
variable {L : List Tmp} {P : Program} {ops : Array Oper} {Q : Exit → Act → World → Prop} {W : World} {k : Nat} {o : Oper} {rest : List Oper} {a : Act} {d : Nat → Prop} {v : Value} {p : Addr} {n : Nat}
theorem sn_ph (h : (k == n) = false) : ∀ w', (sn W L p v n).K w' → (sn W L p v n).Phi k w' := fun _ _ e => by rw [e] at h; simp at h
theorem sop0e (hk : (k == n) = false) (hw : Region.wanted o (yielded ops a.tmps) = true) (hs : noSel o = true) (hh : hot L o = [])
    (h : ∃ u, (∀ w, (sn W L p v n).K w → rdUpon P w u ((execOp a.eval o).run P w)) ∧ ∀ a', a' = a.put o.dst u → (sn W L p v n).Lex P ops Q (k + 1) rest a' (fun j => j = k ∨ d j)) : (sn W L p v n).Lex P ops Q k (o :: rest) a d :=
  op0e sn_class (sn_ph hk) hw hs hh h
theorem sop0 (hk : (k == n) = false) (hw : Region.wanted o (yielded ops a.tmps) = true) (hs : noSel o = true) (hh : hot L o = [])
    (h : ∃ u, (∀ w, (sn W L p v n).K w → rnUpon P w (hotD L o) u ((execOp a.eval o).run P w)) ∧ ∀ a', a' = a.put o.dst u → (sn W L p v n).Lex P ops Q (k + 1) rest a' (fun j => j = k ∨ d j)) : (sn W L p v n).Lex P ops Q k (o :: rest) a d :=
  op0 sn_class (sn_ph hk) hw hs hh h
end

end Go.Reg
