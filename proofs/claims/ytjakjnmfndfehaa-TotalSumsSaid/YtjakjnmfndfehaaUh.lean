/- total: a list copied by append. No condition. -/
import Derived.Test.YtjakjnmfndfehaaUg
namespace Go.Proofs.Ytjakjnmfndfehaa
open Go.RowKit Go.Pst
set_option maxRecDepth 20000
set_option linter.unusedSimpArgs false
set_option linter.unusedVariables false
theorem wpList_twin {ops : Array Oper} {rest : List Oper} {o : Oper} {a : Act} {Q : Exit → Act → World → Prop} (w0 : World) (hgd : o.guard = none) (s x : Operand)
    (ho : o.op = .call { callee := .builtin .append, args := #[s, x], argTypes := #[22, 22] }) (hty : o.type = 22)
    (hs : a.eval s = .slice (some ⟨w0.heap.size, 0, none⟩) 0 0) (A : Option Addr) (n c : Nat) (f : Nat → Nat) (hx : a.eval x = .slice A n c) (hA : FlAt w0 w0.heap.size A n f) (hn : n ≤ 17592186044416)
    (hk : ∀ B cb w', n ≤ cb → FlAt w' w'.heap.size B n f → Below w0.heap.size w0 w' → wpList Try.prog ops Q rest (a.put o.dst (.slice B n cb)) w') :
    wpList Try.prog ops Q (o :: rest) a (w0.alloc (.cells #[] 24)) := by
  have hal := (Below.refl w0.heap.size w0).alloc (Nat.le_refl _) (.cells #[] 24)
  refine wpList_floats w0 _ hgd s x ho hty hal _ 0 f hs (World.ownsRow_made (e := 24) (size := 1) w0 #[] 0 (Nat.le_refl _) (by simp [maxLen]) rfl) A n c w0.heap.size f hx (hA.below hal (Nat.le_refl _)) (by omega) ?_
  intro v1 w1 ho1 hb1
  rw [Nat.zero_add] at ho1
  obtain ⟨B, cb, rfl, hcb, fv⟩ := flat_cap ho1
  refine hk B cb w1 hcb (fv.congr fun i hi => ?_) hb1
  unfold joinR; rw [if_neg (by omega), Nat.sub_zero]
end Go.Proofs.Ytjakjnmfndfehaa
