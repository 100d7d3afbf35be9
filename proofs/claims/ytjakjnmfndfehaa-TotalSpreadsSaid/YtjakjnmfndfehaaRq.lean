/- A region that draws its order: operations that give a value in whatever world stand first, in an order that is named; the rest waits one for another. No condition. -/
import Derived.Test.YtjakjnmfndfehaaRt
namespace Go.Reg
open Go Go.RowKit
set_option linter.unusedVariables false

section
variable {P : Program} {ops : Array Oper} {Q : Exit → Act → World → Prop} {md : Region.Mode}

def permB (md : Region.Mode) (ops : Array Oper) : List (Nat × Bool) → Array Bool → Bool
  | [], listed => (Region.ready md ops listed).isEmpty
  | (i, true) :: r, listed => (Region.ready md ops listed).contains i && Region.free md ops listed i && permB md ops r (listed.setIfInBounds i true)
  | (i, false) :: r, listed => decide (Region.ready md ops listed = [i]) && permB md ops r (listed.setIfInBounds i true)

/-- Of a list, what stands at these places. -/
def pick (l : List Oper) : List Nat → List Oper
  | [] => []
  | i :: r => (l.drop i).take 1 ++ pick l r

theorem pick_cons {l : List Oper} {i : Nat} {r : List Nat} (hi : i < l.toArray.size) : pick l (i :: r) = l.toArray[i] :: pick l r := by
  have hi' : i < l.length := by simpa using hi
  show (l.drop i).take 1 ++ pick l r = _
  have e : List.take 1 (List.drop i l) = [l[i]] := by rw [List.drop_eq_getElem_cons hi', List.take_succ_cons, List.take_zero]
  rw [e]
  rfl

theorem wpOp_of_list {o : Oper} {rest : List Oper} {i : Nat} (hi : ops[i]? = some o) {a : Act} {w : World} (h : wpList P ops Q (o :: rest) a w) : wpOp P ops Q i (wpList P ops Q rest) a w := by
  unfold wpOp; simp only [hi]; exact h

theorem any_of_perm {l : List Oper} (ho : ops = l.toArray) (hs : Region.noSelect ops = true) (hQ : ∀ c a d v w, Q (.panic c) (a.put d v) w → Q (.panic c) a w) :
    ∀ (ps hd : List Nat), (∀ i ∈ ps, i < ops.size) → (∀ i ∈ hd, i < ops.size) → ∀ (listed : Array Bool) (a : Act) (w : World), permB md ops (ps.map (fun i => (i, true)) ++ hd.map (fun i => (i, false))) listed = true →
      held P ops (fun _ => True) (fun a' => wpList P ops Q (pick l hd) a' w) (pick l ps) a → wpAnyH P md ops Q (fun _ => True) (ps.length + hd.length) listed a w
  | [], [], _, _, listed, a, w, hB, h => by
    simp only [List.map_nil, List.append_nil, permB, List.isEmpty_iff] at hB
    exact wpAnyH_done hB h _
  | [], i :: hd, h1, h2, listed, a, w, hB, h => by
    simp only [List.map_nil, List.nil_append, List.map_cons, permB, Bool.and_eq_true, decide_eq_true_eq] at hB
    have hi := h2 i List.mem_cons_self
    have e : pick l (i :: hd) = ops[i] :: pick l hd := by subst ho; exact pick_cons hi
    have h' : wpList P ops Q (ops[i] :: pick l hd) a w := by rw [← e]; exact h
    rw [show ([] : List Nat).length + (i :: hd).length = ([] : List Nat).length + hd.length + 1 by simp]
    refine wpAnyH_all hB.1 (by simp) fun j hj => ?_
    obtain rfl : j = i := by simpa using hj
    refine wpOp_mono (fun a' w' h3 => ⟨trivial, any_of_perm ho hs hQ [] hd h1 (fun k hk => h2 k (List.mem_cons_of_mem _ hk)) _ a' w' (by simpa using hB.2) h3⟩) (wpOp_of_list (Array.getElem?_eq_getElem hi) h')
  | i :: ps, hd, h1, h2, listed, a, w, hB, h => by
    simp only [List.map_cons, List.cons_append, permB, Bool.and_eq_true] at hB
    have hi := h1 i List.mem_cons_self
    have e : pick l (i :: ps) = ops[i] :: pick l ps := by subst ho; exact pick_cons hi
    rw [e] at h
    obtain ⟨v, hy, hk⟩ := h
    rw [show (i :: ps).length + hd.length = ps.length + hd.length + 1 by simp; omega]
    exact wpAnyH_take (Array.getElem?_eq_getElem hi) hs hB.1.2 hB.1.1 (fun c a w => hQ c a _ _ w) hy trivial
      (any_of_perm ho hs hQ ps hd (fun k hk => h1 k (List.mem_cons_of_mem _ hk)) h2 _ _ w hB.2 hk)

def permAll (md : Region.Mode) (ops : Array Oper) (ps hd : List Nat) : Bool :=
  Region.noSelect ops && ps.all (fun i => decide (i < ops.size)) && hd.all (fun i => decide (i < ops.size)) && decide (ps.length + hd.length = ops.size) && permB md ops (ps.map (fun i => (i, true)) ++ hd.map (fun i => (i, false))) (Array.replicate ops.size false)

/-- ps: the operations that are taken first; hd: the rest, in their order. -/
theorem wp_region_perm {id : Nat} {a : Act} {w : World} {l : List Oper} (ps hd : List Nat) (hm : P.follows .mixedOrders = true) (hB : permAll .any l.toArray ps hd = true)
    (hQ : ∀ c a d v w, Q (.panic c) (a.put d v) w → Q (.panic c) a w)
    (h : Held P l.toArray (fun _ => True) (fun a' => wpList P l.toArray Q (pick l hd) a' w.drew) (pick l ps) a) : (Code.region id l.toArray true).wp P Q a w := by
  simp only [permAll, Bool.and_eq_true, decide_eq_true_eq, List.all_eq_true] at hB
  obtain ⟨⟨⟨⟨h1, h2⟩, h3⟩, h4⟩, h5⟩ := hB
  refine wp_region_any hm ?_
  have H := wpAny_of_held _ _ _ _ (any_of_perm (md := .any) rfl h1 hQ ps hd h2 h3 _ a w.drew h5 h.out)
  rwa [h4] at H
end
end Go.Reg
