/- A region that draws its order and reckons with floats that may be no numbers, and whose last operations stand in one order. No condition. -/
import Derived.Test.YtjakjnmfndfehaaRn
import Derived.StillTail
namespace Go.Reg
open Go Go.RowKit
set_option linter.unusedVariables false

section
variable {s : Spec} {P : Program} {ops : Array Oper} {Q : Exit → Act → World → Prop} {md : Region.Mode} {n g : Nat} {L : Array Bool → Act → (Nat → Prop) → Prop}

def anyT (s : Spec) (P : Program) (md : Region.Mode) (ops : Array Oper) (n : Nat) (L : Array Bool → Act → (Nat → Prop) → Prop) : Nat → Array Bool → Act → (Nat → Prop) → Prop
  | 0, listed, a, done => L listed a done
  | f + 1, listed, a, done => Region.ready md ops listed ≠ [] ∧ ∀ i ∈ Region.ready md ops listed, i < n ∧ s.qOp P ops i (fun a d => anyT s P md ops n L f (listed.setIfInBounds i true) a d) a done

theorem wpAny_of_anyT (hL : ∀ listed a a' w done, s.Near a' a → s.K w → (∀ j, done j → s.Phi j w) → L listed a done → wpAny P md ops Q g listed a' w) :
    ∀ (f : Nat) (listed : Array Bool) (a a' : Act) (w : World) (done : Nat → Prop), s.Near a' a → s.K w → (∀ j, done j → s.Phi j w) → anyT s P md ops n L f listed a done → wpAny P md ops Q (f + g) listed a' w
  | 0, _, _, _, _, _, hn, hK, hd, h => by rw [Nat.zero_add]; exact hL _ _ _ _ _ hn hK hd h
  | f + 1, _, _, _, _, _, hn, hK, hd, h => by
    rw [show f + 1 + g = (f + g) + 1 by omega]
    exact ⟨fun h0 => absurd h0 h.1, fun i hi => wpOp_of_qOp hn hK hd (fun a a' w d hn hK hd hk => wpAny_of_anyT hL f _ a a' w d hn hK hd hk) (h.2 i hi).2⟩

theorem anyT_first {i : Nat} {oi : Oper} {v : Value} (hi : ops[i]? = some oi) (hsel : ∀ (j : Nat) (o : Oper) cs b, ops[j]? = some o → o.op ≠ .select cs b)
    (hs : Region.sinkB md ops n = true) (hc : Region.chainB md ops n = true) (hm : n < ops.size) (him : i < n)
    (hdone : ∀ listed a d, L listed a d → ∀ j ∈ Region.ready md ops listed, n ≤ j) :
    ∀ (f : Nat) (listed : Array Bool) (a : Act) (done : Nat → Prop), HeadInv md ops n listed →
      (∀ j oj, ops[j]? = some oj → j ≠ i → listed.getD j true = false → (∀ e ∈ oj.after, Region.binds md e = true → e.on ≠ i) → oi.apart ops oj = true) →
      i ∈ Region.ready md ops listed → Gives s P ops i oi v a →
      anyT s P md ops n L f (listed.setIfInBounds i true) (a.put oi.dst v) (doneBy ops i oi a done) → anyT s P md ops n L (f + 1) listed a done := by
  intro f
  induction f with
  | zero =>
    intro listed a done inv _ hr hy H
    have hun := (mem_ready.1 hr).1
    refine ⟨fun h => (by rw [h] at hr; cases hr), fun j hj => ?_⟩
    have hjn : j < n := by
      rcases Nat.lt_or_ge j n with h | h
      · exact h
      · exact absurd hj (tail_waits hs hc hm inv _ i rfl him hun j h)
    refine ⟨hjn, ?_⟩
    by_cases hji : j = i
    · subst hji; exact hy.qOp hi H
    · have := hdone _ _ _ H j (ready_mono hj hji)
      omega
  | succ f ih =>
    intro listed a done inv hfree hr hy H
    have hun := (mem_ready.1 hr).1
    refine ⟨fun h => (by rw [h] at hr; cases hr), fun j hj => ?_⟩
    have hjn : j < n := by
      rcases Nat.lt_or_ge j n with h | h
      · exact h
      · exact absurd hj (tail_waits hs hc hm inv _ i rfl him hun j h)
    refine ⟨hjn, ?_⟩
    by_cases hji : j = i
    · subst hji; exact hy.qOp hi H
    · have h1 := (H.2 j (ready_mono hj hji)).2
      obtain ⟨hjun, oj, hoj, hall⟩ := mem_ready.1 hj
      have hnot : ∀ e ∈ oj.after, Region.binds md e = true → e.on ≠ i := fun e he hb heq => by
        have h1 := hall e he hb
        rw [heq, getD_both hun] at h1
        cases h1
      have h2 := qOp_put hoj (hfree j oj hoj hji hjun hnot) (fun cs b => hsel i oi cs b hi) (fun cs b => hsel j oj cs b hoj) hy h1
      have hfree' : ∀ k ok, ops[k]? = some ok → k ≠ i → (listed.setIfInBounds j true).getD k true = false →
          (∀ e ∈ ok.after, Region.binds md e = true → e.on ≠ i) → oi.apart ops ok = true := fun k ok hk hki hun hno => by
        refine hfree k ok hk hki ?_ hno
        by_cases hjk : j = k
        · subst hjk; exact hjun
        · rw [getD_set_ne true hjk] at hun; exact hun
      refine qOp_mono (fun a' d' h3 => ih (listed.setIfInBounds j true) a' d' (inv.set hj hjn) hfree' (ready_mono hr (Ne.symm hji)) h3.1 ?_) h2
      rw [Array.setIfInBounds_comm _ _ hji]
      exact h3.2

theorem anyT_lex {QT : Exit → Act → World → Prop} (hsel : Region.noSelect ops = true) (hs : Region.sinkB md ops n = true) (hc : Region.chainB md ops n = true) (hn : n < ops.size) :
    ∀ (l : List Oper) (k : Nat) (listed : Array Bool) (a : Act) (done : Nat → Prop), (∀ j, j < l.length → l[j]? = ops[k + j]?) → k + l.length = n → HeadInv md ops n listed →
    Region.lexHead md ops g l.length k listed = true → s.lex P ops QT k l a done →
    anyT s P md ops n (fun listed' a' d' => Region.seqB md ops g n listed' = true ∧ s.final QT a' d') l.length listed a done
  | [], k, listed, a, done, _, hk, _, hB, h => by
    have : k = n := by simpa using hk
    subst this
    exact ⟨by simpa [Region.lexHead] using hB, h⟩
  | o :: l, k, listed, a, done, hl, hk, inv, hB, h => by
    have h0 : ops[k]? = some o := by simpa using (hl 0 (by simp)).symm
    simp only [List.length_cons, Region.lexHead, Bool.and_eq_true] at hB
    obtain ⟨⟨hr, hf⟩, hB'⟩ := hB
    have hkn : k < n := by simp only [List.length_cons] at hk; omega
    have hr' : k ∈ Region.ready md ops listed := by simpa using hr
    have hst : s.qOp P ops k (fun a d => s.lex P ops QT (k + 1) l a d) a done := by unfold Spec.qOp; simp only [h0]; exact h
    obtain ⟨v, hy, hK⟩ := gives_of_qOp h0 hst
    exact anyT_first h0 (Region.noSelect_spec hsel) hs hc hn hkn (fun listed' a' d' hL => seqB_ready hL.1) l.length listed a done inv (Region.free_spec h0 hf) hr' hy
      (anyT_lex hsel hs hc hn l (k + 1) _ _ _ (fun j hj => by have := hl (j + 1) (by simp; omega); simpa [Nat.add_assoc, Nat.add_comm 1 j] using this) (by simp only [List.length_cons] at hk; omega) (inv.set hr' hkn) hB' hK)

/-- The head by one walk; the tail, in its one order, as a plain list. -/
theorem wp_region_lex_tail {id : Nat} {a : Act} {w : World} {l : List Oper} (s : Spec) (n : Nat) (hm : P.follows .mixedOrders = true) (hB : Region.lexTailB .any l.toArray n = true) (hK : s.K w.drew)
    (h : s.Lex P l.toArray (fun _ a' w' => wpList P l.toArray Q (l.drop n) a' w') 0 (l.take n) a (fun _ => False)) : (Code.region id l.toArray true).wp P Q a w := by
  simp only [Region.lexTailB, Bool.and_eq_true, decide_eq_true_eq] at hB
  obtain ⟨⟨⟨⟨hsel, hn⟩, hs⟩, hc⟩, hlex⟩ := hB
  have hn' : n < l.length := by simpa using hn
  have htl : (l.take n).length = n := by simp; omega
  have hdl : (l.drop n).length = l.toArray.size - n := by simp
  have inv0 : HeadInv .any l.toArray n (Array.replicate l.toArray.size false) :=
    ⟨by simp, fun j oj _ hl => (by rw [getD_replicate_false] at hl; cases hl), fun t _ ht => getD_in (by simpa using ht) (getD_replicate_false _ _)⟩
  refine wp_region_any hm ?_
  have H := anyT_lex (s := s) (md := .any) (g := l.toArray.size - n) (QT := fun _ a' w' => wpList P l.toArray Q (l.drop n) a' w') hsel hs hc hn (l.take n) 0 _ a (fun _ => False) (fun j hj => by
    have hj' : j < n := by rw [htl] at hj; exact hj
    simp [hj']) (by simpa using htl) inv0 (by rw [htl]; exact hlex) h.out
  have := wpAny_of_anyT (Q := Q) (g := l.toArray.size - n) (fun listed a1 a' w' d' hnear hK hd hL => by
    have := wpAny_of_seq (md := .any) (Q' := Q) (l.drop n) n listed a' w' (fun j => by simp [List.getElem?_drop]) (by rw [hdl]; exact hL.1) (hL.2 a' hnear w' hK hd)
    rwa [hdl] at this) _ _ a a w.drew (fun _ => False) (Spec.Near.refl a) hK (fun _ h => h.elim) H
  rw [htl, show n + (l.toArray.size - n) = l.toArray.size by omega] at this
  exact this

theorem wp_region_rn_tail {id : Nat} {a : Act} {W : World} {l : List Oper} (L : List Tmp) (n : Nat) (hm : P.follows .mixedOrders = true) (hB : Region.lexTailB .any l.toArray n = true)
    (h : ∀ d, (rn W L).Lex P l.toArray (fun _ a' w' => wpList P l.toArray Q (l.drop n) a' w') 0 (l.take n) a d) : (Code.region id l.toArray true).wp P Q a W :=
  wp_region_lex_tail (rn W L) n hm hB (Below.drew (Below.refl _ _)) (h _)
end
end Go.Reg
