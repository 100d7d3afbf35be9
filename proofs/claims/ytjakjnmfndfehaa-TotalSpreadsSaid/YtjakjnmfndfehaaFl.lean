/- Plain facts on the words of binary floating point: their order is that of whole numbers. No condition. -/
import Ieee.Arith
namespace Go.Pst
open Ieee

theorem cmp_def (a b : Int) : compare a b = if a < b then Ordering.lt else if a = b then .eq else .gt := rfl

theorem cmp_scale (a b c : Int) (hc : 0 < c) : compare (a * c) (b * c) = compare a b := by
  simp only [cmp_def]
  have h1 : a * c < b * c ↔ a < b := by
    constructor
    · intro h; exact Int.lt_of_mul_lt_mul_right h (by omega)
    · intro h; exact Int.mul_lt_mul_of_pos_right h hc
  have h2 : a * c = b * c ↔ a = b := ⟨fun h => Int.eq_of_mul_eq_mul_right (by omega) h, fun h => by rw [h]⟩
  simp only [h1, h2]

/-- A rung's number, in units of the least place. -/
def rval (f : Format) (r : Nat) : Nat := if r < f.binade then r else (f.binade + r % f.binade) * 2 ^ (r / f.binade - 1)

theorem rval_succ (f : Format) (r : Nat) : rval f r < rval f (r + 1) := by
  have hB : 0 < f.binade := Nat.two_pow_pos _
  generalize hb : f.binade = B at *
  unfold rval
  rw [hb]
  have hdm := Nat.div_add_mod r B
  have hlt := Nat.mod_lt r hB
  generalize hq : r / B = q at *
  generalize ht : r % B = t at *
  by_cases h1 : r + 1 < B
  · rw [if_pos (by omega), if_pos h1]; omega
  · rw [if_neg h1]
    by_cases h2 : r < B
    · have hr : r + 1 = B := by omega
      rw [if_pos h2, hr, Nat.mod_self, Nat.div_self hB]; simp; omega
    · rw [if_neg h2]
      have hq1 : 1 ≤ q := by
        rw [← hq]; exact (Nat.one_le_div_iff hB).2 (by omega)
      by_cases h3 : t + 1 < B
      · have e1 : (r + 1) / B = q := by
          rw [← hdm, Nat.add_assoc, Nat.mul_add_div hB, Nat.div_eq_of_lt h3, Nat.add_zero]
        have e2 : (r + 1) % B = t + 1 := by
          rw [← hdm, Nat.add_assoc, Nat.mul_add_mod, Nat.mod_eq_of_lt h3]
        rw [e1, e2]
        exact Nat.mul_lt_mul_of_pos_right (by omega) (Nat.two_pow_pos _)
      · have e0 : t + 1 = B := by omega
        have e1 : (r + 1) / B = q + 1 := by
          rw [← hdm, Nat.add_assoc, e0, Nat.mul_add_div hB, Nat.div_self hB]
        have e2 : (r + 1) % B = 0 := by
          rw [← hdm, Nat.add_assoc, e0, Nat.mul_add_mod, Nat.mod_self]
        rw [e1, e2]
        obtain ⟨k, rfl⟩ : ∃ k, q = k + 1 := ⟨q - 1, by omega⟩
        simp only [Nat.add_sub_cancel, Nat.add_zero]
        rw [Nat.pow_succ, Nat.mul_comm (2 ^ k) 2, ← Nat.mul_assoc]
        exact Nat.mul_lt_mul_of_pos_right (by omega) (Nat.two_pow_pos _)

theorem rval_lt (f : Format) {r s : Nat} (h : r < s) : rval f r < rval f s := by
  obtain ⟨d, rfl⟩ : ∃ d, s = r + 1 + d := ⟨s - r - 1, by omega⟩
  induction d with
  | zero => exact rval_succ f r
  | succ d ih => exact Nat.lt_trans (ih (by omega)) (rval_succ f _)

theorem rval_lt_iff (f : Format) {r s : Nat} : rval f r < rval f s ↔ r < s := by
  constructor
  · intro h
    rcases Nat.lt_trichotomy r s with h1 | h1 | h1
    · exact h1
    · subst h1; omega
    · have := rval_lt f h1; omega
  · exact rval_lt f

theorem rval_inj (f : Format) {r s : Nat} : rval f r = rval f s ↔ r = s := by
  constructor
  · intro h
    rcases Nat.lt_trichotomy r s with h1 | h1 | h1
    · have := rval_lt f h1; omega
    · exact h1
    · have := rval_lt f h1; omega
  · intro h; rw [h]

/-- A word's rung and sign. -/
def rung (f : Format) (x : Nat) : Nat := x % f.signWeight
def wneg (f : Format) (x : Nat) : Bool := x / f.signWeight % 2 == 1

/-- Is a word no number? -/
def nanW (f : Format) (x : Nat) : Bool := decide (f.infRung < rung f x)

theorem binade_le_inf (f : Format) (h : 1 ≤ f.exponentBits) : f.binade ≤ f.infRung := by
  unfold Format.infRung
  have : 2 ≤ 2 ^ f.exponentBits := by have := Nat.pow_le_pow_right (n := 2) (by omega) h; simpa using this
  exact Nat.le_mul_of_pos_left _ (by omega)

theorem read_nan (f : Format) (x : Nat) (h : nanW f x = true) (he : 1 ≤ f.exponentBits) : f.read x = .nan (wneg f x) (rung f x - f.infRung) := by
  have hr : f.infRung < x % f.signWeight := of_decide_eq_true h
  have := binade_le_inf f he
  unfold Format.read
  simp only
  rw [if_neg (by omega), if_neg (by omega), if_neg (by omega)]
  rfl

theorem read_inf (f : Format) (x : Nat) (h : rung f x = f.infRung) (he : 1 ≤ f.exponentBits) : f.read x = .infinity (wneg f x) := by
  have hr : x % f.signWeight = f.infRung := h
  have := binade_le_inf f he
  unfold Format.read
  simp only
  rw [if_neg (by omega), if_neg (by omega), if_pos hr]
  rfl

/-- A finite word: its number. -/
theorem read_num (f : Format) (x : Nat) (h : rung f x < f.infRung) : ∃ m p : Nat, f.read x = .number (wneg f x) m (f.leastPlace + p) ∧ m * 2 ^ p = rval f (rung f x) := by
  have hr : x % f.signWeight < f.infRung := h
  unfold Format.read
  simp only
  by_cases h1 : x % f.signWeight < f.binade
  · rw [if_pos h1]
    exact ⟨x % f.signWeight, 0, by simp [wneg], by simp [rval, rung, h1]⟩
  · rw [if_neg h1, if_pos hr]
    exact ⟨_, _, rfl, by simp [rval, rung, h1]⟩

def fkey (f : Format) (x : Nat) : Int := if wneg f x then -(rung f x : Int) else rung f x

def sgn (s : Bool) (n : Nat) : Int := if s then -(n : Int) else n

theorem signed_eq (s : Bool) (m u : Nat) : signed s m u = sgn s (m * 2 ^ u) := by
  unfold signed sgn; rw [Nat.shiftLeft_eq]

theorem sgn_mul (s : Bool) (a b : Nat) : sgn s a * (b : Int) = sgn s (a * b) := by
  unfold sgn; cases s <;> simp [Int.neg_mul]

/-- The order of two numbers, brought to one place. -/
theorem order_number (s t : Bool) (m n a b : Nat) (l : Int) :
    (Datum.number s m (l + a)).order (.number t n (l + b)) = some (compare (sgn s (m * 2 ^ a)) (sgn t (n * 2 ^ b))) := by
  unfold Datum.order
  simp only [signed_eq]
  congr 1
  obtain ⟨c, hc⟩ : ∃ c, c = min a b := ⟨_, rfl⟩
  have h1 : (l + (a : Int) - min (l + a) (l + b)).toNat = a - c := by omega
  have h2 : (l + (b : Int) - min (l + a) (l + b)).toNat = b - c := by omega
  rw [h1, h2, ← cmp_scale _ _ ((2 ^ c : Nat) : Int) (by have := Nat.two_pow_pos c; omega), sgn_mul, sgn_mul, Nat.mul_assoc, Nat.mul_assoc, ← Nat.pow_add, ← Nat.pow_add,
    Nat.sub_add_cancel (by omega), Nat.sub_add_cancel (by omega)]

theorem order_num_num (f : Format) (x y : Nat) (hx : rung f x < f.infRung) (hy : rung f y < f.infRung) : f.order x y = some (compare (fkey f x) (fkey f y)) := by
  obtain ⟨m, p, h1, h2⟩ := read_num f x hx
  obtain ⟨n, q, h3, h4⟩ := read_num f y hy
  unfold Format.order
  rw [h1, h3, order_number, h2, h4]
  congr 1
  unfold fkey sgn
  have hl := @rval_lt_iff f
  have he := @rval_inj f
  have h0 : rval f 0 = 0 := by unfold rval; rw [if_pos (show 0 < f.binade from Nat.two_pow_pos _)]
  have hz : ∀ r, rval f r = 0 ↔ r = 0 := fun r => by rw [← h0, he, h0]
  generalize rung f x = r at *
  generalize rung f y = s at *
  have a1 := @hl r s
  have a2 := @hl s r
  have a3 := @he r s
  have a4 := hz r
  have a5 := hz s
  simp only [cmp_def]
  cases wneg f x <;> cases wneg f y <;> simp only [Bool.false_eq_true, if_false, if_true] <;> (repeat' split) <;> first | rfl | omega

/-- **THE ORDER OF WORDS.** -/
theorem order_word (f : Format) (he : 1 ≤ f.exponentBits) (x y : Nat) : f.order x y = if nanW f x || nanW f y then none else some (compare (fkey f x) (fkey f y)) := by
  by_cases hx : nanW f x = true
  · rw [if_pos (by simp [hx])]; unfold Format.order; rw [read_nan f x hx he]; rfl
  · by_cases hy : nanW f y = true
    · rw [if_pos (by simp [hy])]; unfold Format.order; rw [read_nan f y hy he]; cases f.read x <;> rfl
    · rw [if_neg (by simp [hx, hy])]
      have hx' : rung f x ≤ f.infRung := by have : ¬ f.infRung < rung f x := fun h => hx (decide_eq_true h); omega
      have hy' : rung f y ≤ f.infRung := by have : ¬ f.infRung < rung f y := fun h => hy (decide_eq_true h); omega
      have hp : 0 < f.infRung := Nat.lt_of_lt_of_le (Nat.two_pow_pos _) (binade_le_inf f he)
      by_cases h1 : rung f x = f.infRung
      · by_cases h2 : rung f y = f.infRung
        · unfold Format.order; rw [read_inf f x h1 he, read_inf f y h2 he]
          unfold Datum.order fkey
          rw [h1, h2]
          congr 1
          simp only [cmp_def]
          cases wneg f x <;> cases wneg f y <;> simp only [Bool.false_eq_true, if_false, if_true, Bool.toNat] <;> (repeat' split) <;> first | rfl | omega
        · obtain ⟨n, q, h3, h4⟩ := read_num f y (by omega)
          unfold Format.order; rw [read_inf f x h1 he, h3]
          unfold Datum.order fkey
          rw [h1]
          congr 1
          simp only [cmp_def]
          cases wneg f x <;> cases wneg f y <;> simp only [Bool.false_eq_true, if_false, if_true] <;> (repeat' split) <;> first | rfl | omega
      · by_cases h2 : rung f y = f.infRung
        · obtain ⟨n, q, h3, h4⟩ := read_num f x (by omega)
          unfold Format.order; rw [read_inf f y h2 he, h3]
          unfold Datum.order fkey
          rw [h2]
          congr 1
          simp only [cmp_def]
          cases wneg f x <;> cases wneg f y <;> simp only [Bool.false_eq_true, if_false, if_true] <;> (repeat' split) <;> first | rfl | omega
        · exact order_num_num f x y (by omega) (by omega)

end Go.Pst
