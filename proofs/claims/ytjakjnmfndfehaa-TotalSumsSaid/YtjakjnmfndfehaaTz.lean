/- The exact sum has no order, plain: turned about, in two halves that change places, with noughts put in. No condition. -/
import Derived.Test.YtjakjnmfndfehaaTv
namespace Go.Pst
open Go Ieee Go.Proofs.Ytjakjnmfndfehaa
set_option linter.unusedVariables false
section
variable {α : Type} (op : α → α → α) (e : α)
/-- The first n of a row, joined from the left. -/
def foldN (h : Nat → α) : Nat → α
  | 0 => e
  | n + 1 => op (foldN h n) (h n)
structure Comm : Prop where
  assoc : ∀ a b c, op (op a b) c = op a (op b c)
  comm : ∀ a b, op a b = op b a
  unit : ∀ a, op a e = a
variable {op e}
theorem foldN_congr {h g : Nat → α} : ∀ n, (∀ i, i < n → h i = g i) → foldN op e h n = foldN op e g n
  | 0, _ => rfl
  | n + 1, hh => by unfold foldN; rw [foldN_congr n fun i hi => hh i (by omega), hh n (by omega)]
theorem foldN_add (C : Comm op e) (h : Nat → α) (a : Nat) : ∀ b, foldN op e h (a + b) = op (foldN op e h a) (foldN op e (fun i => h (a + i)) b)
  | 0 => (C.unit _).symm
  | b + 1 => by
    show op (foldN op e h (a + b)) (h (a + b)) = op _ (op _ _)
    rw [foldN_add C h a b, C.assoc]
theorem foldN_first (C : Comm op e) (h : Nat → α) (n : Nat) : foldN op e h (n + 1) = op (h 0) (foldN op e (fun i => h (i + 1)) n) := by
  rw [Nat.add_comm n 1, foldN_add C h 1 n]
  show op (op e (h 0)) _ = _
  rw [C.comm e, C.unit]
  exact congrArg _ (foldN_congr n fun i _ => by rw [Nat.add_comm])
theorem foldN_back (C : Comm op e) : ∀ (n : Nat) (h : Nat → α), foldN op e (fun i => h (n - 1 - i)) n = foldN op e h n
  | 0, _ => rfl
  | n + 1, h => by
    show op (foldN op e (fun i => h (n + 1 - 1 - i)) n) (h (n + 1 - 1 - n)) = _
    rw [foldN_first C h n, C.comm, show n + 1 - 1 - n = 0 by omega]
    congr 1
    rw [← foldN_back C n fun i => h (i + 1)]
    exact foldN_congr n fun i hi => by rw [show n + 1 - 1 - i = n - 1 - i + 1 by omega]
theorem foldN_turn (C : Comm op e) {n at' : Nat} (ha : at' ≤ n) (h g : Nat → α) (h1 : ∀ i, i < n - at' → g i = h (at' + i)) (h2 : ∀ i, i < at' → g (n - at' + i) = h i) : foldN op e g n = foldN op e h n := by
  have e1 := foldN_add C g (n - at') at'
  have e2 := foldN_add C h at' (n - at')
  rw [show n - at' + at' = n by omega] at e1
  rw [show at' + (n - at') = n by omega] at e2
  rw [e1, e2, C.comm]
  rw [foldN_congr at' h2, foldN_congr (n - at') h1]
end
theorem comm_or : Comm Bool.or false := ⟨Bool.or_assoc, Bool.or_comm, Bool.or_false⟩
theorem comm_sum : Comm (fun a b : Int => a + b) 0 := ⟨Int.add_assoc, Int.add_comm, Int.add_zero⟩
def eN (b : Nat) : Bool := nan64 b
def eP (b : Nat) : Bool := !nan64 b && infB b && !negB b
def eL (b : Nat) : Bool := !nan64 b && infB b && negB b
def eS (b : Nat) : Bool := !nan64 b
def eM (b : Nat) : Bool := !nan64 b && (infB b || decide (magN b ≠ 0) || !negB b)
def eU (b : Nat) : Int := if finF b then valZ b else 0
theorem exN_fold (f : Nat → Nat) : ∀ n, exN f n = foldN Bool.or false (fun i => eN (f i)) n
  | 0 => rfl
  | n + 1 => by unfold exN foldN; rw [exN_fold f n]; rfl
theorem exP_fold (f : Nat → Nat) : ∀ n, exP f n = foldN Bool.or false (fun i => eP (f i)) n
  | 0 => rfl
  | n + 1 => by unfold exP foldN; rw [exP_fold f n]; rfl
theorem exL_fold (f : Nat → Nat) : ∀ n, exL f n = foldN Bool.or false (fun i => eL (f i)) n
  | 0 => rfl
  | n + 1 => by unfold exL foldN; rw [exL_fold f n]; rfl
theorem exS_fold (f : Nat → Nat) : ∀ n, exS f n = foldN Bool.or false (fun i => eS (f i)) n
  | 0 => rfl
  | n + 1 => by unfold exS foldN; rw [exS_fold f n]; rfl
theorem exM_fold (f : Nat → Nat) : ∀ n, exM f n = foldN Bool.or false (fun i => eM (f i)) n
  | 0 => rfl
  | n + 1 => by unfold exM foldN; rw [exM_fold f n]; rfl
theorem exSum_fold (f : Nat → Nat) : ∀ n, exSum f n = foldN (fun a b : Int => a + b) 0 (fun i => eU (f i)) n
  | 0 => rfl
  | n + 1 => by unfold exSum foldN; rw [exSum_fold f n]; rfl
theorem exact_of {f g : Nat → Nat} {n : Nat} (h : ∀ {α : Type} {op : α → α → α} {e : α}, Comm op e → ∀ u : Nat → α, foldN op e (fun i => u (g i)) n = foldN op e (fun i => u (f i)) n) : exactV g n = exactV f n := by
  unfold exactV
  rw [exN_fold, exP_fold, exL_fold, exS_fold, exM_fold, exSum_fold, h comm_or, h comm_or, h comm_or, h comm_or, h comm_or, h comm_sum]
  rw [exN_fold f, exP_fold f, exL_fold f, exS_fold f, exM_fold f, exSum_fold f]
theorem exact_back (f : Nat → Nat) (n : Nat) : exactV (fun i => f (n - 1 - i)) n = exactV f n := exact_of fun C u => foldN_back C n fun i => u (f i)
theorem exact_turn {f g : Nat → Nat} {n at' : Nat} (ha : at' ≤ n) (h1 : ∀ i, i < n - at' → g i = f (at' + i)) (h2 : ∀ i, i < at' → g (n - at' + i) = f i) : exactV g n = exactV f n :=
  exact_of fun C u => foldN_turn C ha (fun i => u (f i)) (fun i => u (g i)) (fun i hi => by rw [h1 i hi]) (fun i hi => by rw [h2 i hi])
theorem feq_self64 (x : Nat) (h : nan64 x = false) : feq .f64 x x = true := by rw [feq64, h]; simp
/-- Noughts put in behind: the same number (but for the sign of 0), or none both. -/
theorem exact_nought {f g : Nat → Nat} {n : Nat} (h : ∀ i, i < n → g i = f i) (h0 : g n = 0) (h1 : g (n + 1) = 0) :
    feq .f64 (exactV f n) (exactV g (n + 2)) = true ∨ (nan64 (exactV f n) = true ∧ nan64 (exactV g (n + 2)) = true) := by
  have c : ∀ {α : Type} {op : α → α → α} {e : α} (u : Nat → α), foldN op e (fun i => u (g i)) n = foldN op e (fun i => u (f i)) n := fun u => foldN_congr n fun i hi => by rw [h i hi]
  have aN : exN g (n + 2) = exN f n := by
    show ((exN g n || nan64 (g n)) || nan64 (g (n + 1))) = _
    rw [h0, h1, exN_fold, c eN, ← exN_fold]; simp [show nan64 0 = false from rfl]
  have aP : exP g (n + 2) = exP f n := by
    show ((exP g n || eP (g n)) || eP (g (n + 1))) = _
    rw [h0, h1, exP_fold, c eP, ← exP_fold, show eP 0 = false by decide]; simp
  have aL : exL g (n + 2) = exL f n := by
    show ((exL g n || eL (g n)) || eL (g (n + 1))) = _
    rw [h0, h1, exL_fold, c eL, ← exL_fold, show eL 0 = false by decide]; simp
  have aM : exM g (n + 2) = true := by
    show ((exM g n || eM (g n)) || eM (g (n + 1))) = _
    rw [h1, show eM 0 = true by decide]; simp
  have aU : exSum g (n + 2) = exSum f n := by
    show ((exSum g n + eU (g n)) + eU (g (n + 1))) = _
    rw [h0, h1, exSum_fold, c eU, ← exSum_fold, show eU 0 = 0 by decide]; simp
  have main : exactV f n = exactV g (n + 2) ∨ (exactV f n = 9223372036854775808 ∧ exactV g (n + 2) = 0) := by
    unfold exactV
    rw [aN, aP, aL, aM, aU]
    unfold exV
    split
    · exact .inl rfl
    split
    · exact .inl rfl
    split
    · exact .inl rfl
    split
    · rw [Bool.not_true, Bool.and_false, if_neg Bool.false_ne_true]
      split
      · exact .inr ⟨rfl, rfl⟩
      · exact .inl rfl
    · exact .inl rfl
  rcases main with e | ⟨e1, e2⟩
  · rw [← e]
    cases hn : nan64 (exactV f n)
    · exact .inl (feq_self64 _ hn)
    · exact .inr ⟨rfl, rfl⟩
  · rw [e1, e2]; exact .inl (by decide)
end Go.Pst
