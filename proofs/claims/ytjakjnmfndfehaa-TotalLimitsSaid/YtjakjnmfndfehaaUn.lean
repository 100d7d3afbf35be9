/- total: a float of 64 bits made one of 32; two rows of floats that are made side by side; lists that are too long: walks. No condition. -/
import Derived.Test.YtjakjnmfndfehaaUl
import Derived.Test.YtjakjnmfndfehaaDe
import Derived.OwnWalk
namespace Go.Pst
open Go Ieee Go.RowKit Go.Proofs.Ytjakjnmfndfehaa
set_option linter.unusedVariables false
set_option linter.unusedSimpArgs false
/-- A float of 64 bits in 32, whatever it is where the model leaves it open. -/
def narU (w : World) (x : Nat) : Nat := match FloatKind.f64.decode x with
  | .nan _ _ => (Question.nanConv .f32 x).cut (w.tape w.drawn (.nanConv .f32 x))
  | .infinity s => FloatKind.f32.encode (.infinity s)
  | .number s m e => if (FloatKind.f32.decode (FloatKind.f32.encode (.number s m e))).isInfinity then (Question.floatToFloat x).cut (w.tape w.drawn (.floatToFloat x)) else FloatKind.f32.encode (.number s m e)
def narB (x : Nat) : Bool := match FloatKind.f64.decode x with
  | .nan _ _ => true
  | .infinity _ => false
  | .number s m e => (FloatKind.f32.decode (FloatKind.f32.encode (.number s m e))).isInfinity
theorem run_nar (P : Program) (src dst : TypeId) (x : Nat) (w : World) (hs : (P.underlying src).isSome = true) (hd : P.underlying dst = some (.float .f32)) :
    Sem.run P (convert src dst (.float .f64 x)) w = .ok (.float .f32 (narU w x)) (wIf (narB x) w) := by
  obtain ⟨u, hs'⟩ := Option.isSome_iff_exists.1 hs
  unfold narU narB
  cases hx : FloatKind.f64.decode x with
  | nan s t => cases u <;> simp [convert, run_underlying hs', run_underlying hd, Conv.floatToFloat, hx, Question.forced, wIf]
  | infinity s => cases u <;> simp [convert, run_underlying hs', run_underlying hd, Conv.floatToFloat, hx, Question.forced, wIf]
  | number s m e =>
    cases hi : (FloatKind.f32.decode (FloatKind.f32.encode (.number s m e))).isInfinity
    · cases u <;> simp [convert, run_underlying hs', run_underlying hd, Conv.floatToFloat, hx, hi, Question.forced, wIf]
    · cases u <;> simp [convert, run_underlying hs', run_underlying hd, Conv.floatToFloat, hx, hi, Question.forced, wIf]
end Go.Pst
namespace Go.Proofs.Ytjakjnmfndfehaa
open Go.RowKit Go.Pst
set_option maxRecDepth 20000
set_option linter.unusedSimpArgs false
set_option linter.unusedVariables false
theorem nar_here (c : Nat) (w : World) : Sem.run Try.prog (convert 24 48 (.float .f64 c)) w = .ok (.float .f32 (narU w c)) (wIf (narB c) w) :=
  run_nar _ _ _ _ _ (by kernel_rfl) Try.underlying48
theorem infoNum32 : (Try.prog.info? 48).map (fun i => (i.zero, i.size, i.bytes)) = some (some (.float .f32 0), 1, 4) := by kernel_rfl
def nums32 (f : Nat → Nat) (j : Nat) : List Value := (List.range j).map fun k => .float .f32 (f k)
theorem nums32_get (f : Nat → Nat) {j k : Nat} (h : k < j) : (nums32 f j)[k]? = some (.float .f32 (f k)) := by
  unfold nums32; rw [List.getElem?_map, List.getElem?_range h]; rfl
theorem nums32_put (f : Nat → Nat) (j z : Nat) : nums32 f j ++ [.float .f32 z] = nums32 (fun k => if k = j then z else f k) (j + 1) := by
  unfold nums32
  rw [List.range_succ, List.map_append]
  congr 1
  · apply List.map_congr_left
    intro k hk
    have : k ≠ j := by have := List.mem_range.1 hk; omega
    simp [this]
  · simp
theorem list_cap {w : World} {base n : Nat} {e : TypeId} {v : Value} {y : Nat → Nat} (h : w.ownsRow base e 1 v n (nums32 y n)) : ∃ B cb, v = .slice B n cb ∧ n ≤ cb ∧ ListAt w w.heap.size B n (fun i => .float .f32 (y i)) := by
  rcases h.2 with ⟨h1, h2⟩ | ⟨g, cap, cur, h1, h2, h3, h4, _⟩
  · subst h2; exact ⟨none, 0, h1, Nat.le_refl _, fun h => by omega⟩
  · subst h1
    exact ⟨_, _, rfl, h4, fun _ => ⟨g, 0, rfl, (Array.getElem?_eq_some_iff.1 h3).1, fun i hi => by rw [Nat.zero_add]; exact own_cell h (nums32_get y hi)⟩⟩
/-- Two rows of one's own, apart. -/
structure TwoR (w : World) (base : Nat) (e1 e2 : TypeId) (v1 v2 : Value) (n1 n2 : Nat) (xs ys : List Value) : Prop where
  own1 : w.ownsRow base e1 1 v1 n1 xs
  own2 : w.ownsRow base e2 1 v2 n2 ys
  ne : ∀ g, v1.ownBlock = some g → v2.ownBlock ≠ some g
theorem TwoR.swap {w : World} {base n1 n2 : Nat} {e1 e2 : TypeId} {v1 v2 : Value} {xs ys : List Value} (h : TwoR w base e1 e2 v1 v2 n1 n2 xs ys) : TwoR w base e2 e1 v2 v1 n2 n1 ys xs :=
  ⟨h.own2, h.own1, fun g a b => h.ne g b a⟩
theorem TwoR.below {w w' : World} {base n1 n2 : Nat} {e1 e2 : TypeId} {v1 v2 : Value} {xs ys : List Value} (h : TwoR w base e1 e2 v1 v2 n1 n2 xs ys) (hb : Below w.heap.size w w') : TwoR w' base e1 e2 v1 v2 n1 n2 xs ys :=
  ⟨own_below h.own1 hb, own_below h.own2 hb, h.ne⟩
theorem own_keeps {w w' : World} {base : Nat} {e : TypeId} {size n : Nat} {v : Value} {xs : List Value} (h : w.ownsRow base e size v n xs) (hs : ∀ g, v.ownBlock = some g → w'.heap[g]? = w.heap[g]?) : w'.ownsRow base e size v n xs := by
  refine ⟨h.1, ?_⟩
  rcases h.2 with h2 | ⟨g, cap, cur, h1, h2, h3, h4⟩
  · exact .inl h2
  · exact .inr ⟨g, cap, cur, h1, h2, (hs g (by rw [h1]; rfl)).trans h3, h4⟩
theorem TwoR.add1 {w w' : World} {base n1 n2 n' : Nat} {e1 e2 : TypeId} {v1 v2 v' : Value} {xs ys xs' : List Value} (h : TwoR w base e1 e2 v1 v2 n1 n2 xs ys) (ho : w'.ownsRow base e1 1 v' n' xs') (hg : w.grownBy w' v1.ownBlock)
    (hat : v'.ownBlock = v1.ownBlock ∨ v'.ownBlock = some w.heap.size) : TwoR w' base e1 e2 v' v2 n' n2 xs' ys := by
  refine ⟨ho, own_keeps h.own2 fun g e => hg.block g (h.own2.lt g e).2 fun e2 => h.ne g e2.symm e, fun g a b => ?_⟩
  rcases hat with hat | hat
  · exact h.ne g (hat ▸ a) b
  · rw [hat] at a; cases a
    have := (h.own2.lt _ b).2
    omega

theorem sum_long (n c : Nat) (A : Option Addr) (w : World) (hn : n ≤ 1099511627776) (h : 65536 < n) :
    Calls Try.prog 30 #[.slice A n c] w fun en w' => en = .returned (.tuple #[.float .f64 0, .int .i64 50]) ∧ w = w' := by
  have HLG := Lib.hid fun w => long_f n c A w hn
  rw [decide_eq_true h] at HLG
  go_enter Try.func30, Try.ntmps30
  go_wp2_with fail
  refine (HLG.out _).mono ?_
  rintro en w' ⟨rfl, rfl⟩
  go_wp2_with fail
  go_ret2
  exact ⟨rfl, rfl⟩
theorem sum32_long (n c : Nat) (A : Option Addr) (w : World) (hn : n ≤ 1099511627776) (h : 65536 < n) :
    Calls Try.prog 42 #[.slice A n c] w fun en w' => en = .returned (.tuple #[.float .f32 0, .int .i64 50]) ∧ w = w' := by
  have HLG := Lib.hid fun w => long_f32 n c A w hn
  rw [decide_eq_true h] at HLG
  go_enter Try.func42, Try.ntmps42
  go_wp2_with fail
  refine (HLG.out _).mono ?_
  rintro en w' ⟨rfl, rfl⟩
  go_wp2_with fail
  go_ret2
  exact ⟨rfl, rfl⟩
theorem halves_long (n c : Nat) (A : Option Addr) (w : World) (hn : n ≤ 1099511627776) (h : 65536 < n) :
    Calls Try.prog 43 #[.slice A n c] w fun en w' => en = .returned (.tuple #[.float .f64 0, .int .i64 50]) ∧ w = w' := by
  have HLG := Lib.hid fun w => long_f n c A w hn
  rw [decide_eq_true h] at HLG
  go_enter Try.func43, Try.ntmps43
  go_wp2_with fail
  refine (HLG.out _).mono ?_
  rintro en w' ⟨rfl, rfl⟩
  go_wp2_with fail
  go_ret2
  exact ⟨rfl, rfl⟩
theorem exact_long (n c : Nat) (A : Option Addr) (w : World) (hn : n ≤ 1099511627776) (h : 65536 < n) :
    Calls Try.prog 26 #[.slice A n c] w fun en w' => en = .returned (.tuple #[.float .f64 0, .int .i64 50]) ∧ w = w' := by
  have HLG := Lib.hid fun w => long_f n c A w hn
  rw [decide_eq_true h] at HLG
  go_enter Try.func26, Try.ntmps26
  go_wp2_with fail
  refine (HLG.out _).mono ?_
  rintro en w' ⟨rfl, rfl⟩
  go_wp2_with fail
  go_ret2
  exact ⟨rfl, rfl⟩
theorem prefix_long (n c : Nat) (A : Option Addr) (w : World) (hn : n ≤ 1099511627776) (h : 65536 < n) :
    Calls Try.prog 44 #[.slice A n c] w fun en w' => en = .returned (.tuple #[.slice none 0 0, .int .i64 50]) ∧ w = w' := by
  have HLG := Lib.hid fun w => long_f n c A w hn
  rw [decide_eq_true h] at HLG
  go_enter Try.func44, Try.ntmps44
  go_wp2_with fail
  refine (HLG.out _).mono ?_
  rintro en w' ⟨rfl, rfl⟩
  go_wp2_with fail
  go_ret2
  exact ⟨rfl, rfl⟩
theorem poly_long (n c x : Nat) (A : Option Addr) (w : World) (hn : n ≤ 1099511627776) (h : 65536 < n) :
    Calls Try.prog 50 #[.slice A n c, .float .f64 x] w fun en w' => en = .returned (.tuple #[.float .f64 0, .int .i64 50]) ∧ w = w' := by
  have HLG := Lib.hid fun w => long_f n c A w hn
  rw [decide_eq_true h] at HLG
  go_enter Try.func50, Try.ntmps50
  go_wp2_with fail
  refine (HLG.out _).mono ?_
  rintro en w' ⟨rfl, rfl⟩
  go_wp2_with fail
  go_ret2
  exact ⟨rfl, rfl⟩
theorem kept_long (n c : Nat) (A : Option Addr) (w : World) (hn : n ≤ 1099511627776) (h : 65536 < n) :
    Calls Try.prog 37 #[.slice A n c] w fun en w' => en = .returned (.tuple #[.float .f64 0, .float .f64 0, .int .i64 50]) ∧ w = w' := by
  have HLG := Lib.hid fun w => long_f n c A w hn
  rw [decide_eq_true h] at HLG
  go_enter Try.func37, Try.ntmps37
  go_wp2_with fail
  refine (HLG.out _).mono ?_
  rintro en w' ⟨rfl, rfl⟩
  go_wp2_with fail
  go_ret3
  exact ⟨rfl, rfl⟩
theorem both_long (n c m d : Nat) (A B : Option Addr) (w : World) (hn : n ≤ 1099511627776) (h : 65536 < n) :
    Calls Try.prog 90 #[.slice A n c, .slice B m d] w fun en w' => en = .returned (.int .i64 50) ∧ w = w' := by
  have HLG := Lib.hid fun w => long_f n c A w hn
  rw [decide_eq_true h] at HLG
  go_enter Try.func90, Try.ntmps90
  go_wp2_with fail
  refine (HLG.out _).mono ?_
  rintro en w' ⟨rfl, rfl⟩
  go_wp2_with fail
  go_ret
  exact ⟨rfl, rfl⟩
theorem dot_long (n c m d : Nat) (A B : Option Addr) (w : World) (hn : n ≤ 1099511627776) (h : 65536 < n) :
    Calls Try.prog 48 #[.slice A n c, .slice B m d] w fun en w' => en = .returned (.tuple #[.float .f64 0, .int .i64 50]) ∧ w = w' := by
  have HLG := Lib.hid fun w => both_long n c m d A B w hn h
  go_enter Try.func48, Try.ntmps48
  go_wp2_with fail
  refine (HLG.out _).mono ?_
  rintro en w' ⟨rfl, rfl⟩
  go_wp2_with fail
  go_ret2
  exact ⟨rfl, rfl⟩
theorem exactdot_long (n c m d : Nat) (A B : Option Addr) (w : World) (hn : n ≤ 1099511627776) (h : 65536 < n) :
    Calls Try.prog 49 #[.slice A n c, .slice B m d] w fun en w' => en = .returned (.tuple #[.float .f64 0, .int .i64 50]) ∧ w = w' := by
  have HLG := Lib.hid fun w => both_long n c m d A B w hn h
  go_enter Try.func49, Try.ntmps49
  go_wp2_with fail
  refine (HLG.out _).mono ?_
  rintro en w' ⟨rfl, rfl⟩
  go_wp2_with fail
  go_ret2
  exact ⟨rfl, rfl⟩
theorem mean_long (n c : Nat) (A : Option Addr) (w : World) (hn : n ≤ 1099511627776) (h : 65536 < n) :
    Calls Try.prog 27 #[.slice A n c] w fun en w' => en = .returned (.tuple #[.float .f64 0, .int .i64 50]) ∧ w = w' := by
  have HLG := Lib.hid fun w => exact_long n c A w hn h
  have h1 : ((n : Int) == 0) = false := by simp; omega
  have h2 : ¬ (n : Int) = 0 := by omega
  go_enter Try.func27, Try.ntmps27
  go_wp2_with fail
  refine (HLG.out _).mono ?_
  rintro en w' ⟨rfl, rfl⟩
  go_wp2_with fail
  go_ret2
  exact ⟨rfl, rfl⟩
end Go.Proofs.Ytjakjnmfndfehaa
