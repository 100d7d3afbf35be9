/- Plain facts: an expansion loses nothing where all is finite and not too great; a sum of sizes that stays small. No condition. -/
import Derived.Test.YtjakjnmfndfehaaKd
import Derived.Test.YtjakjnmfndfehaaUs
namespace Go.Proofs.Ytjakjnmfndfehaa
open Go Ieee Go.Pst
set_option linter.unusedVariables false
set_option linter.unusedSimpArgs false
def K43 : Nat := 2043
def K41 : Nat := 2041
def K96 : Nat := 2096
def KC : Nat := 9199863512903218227
theorem k95_d : 2 ^ K95 = 4503599627370496 * 2 ^ K43 := by
  rw [show K95 = 52 + K43 from rfl, Nat.pow_add]
theorem k96_d : 2 ^ K96 = 9007199254740992 * 2 ^ K43 := by
  rw [show K96 = 53 + K43 from rfl, Nat.pow_add]
theorem k97_d : 2 ^ K97 = 18014398509481984 * 2 ^ K43 := by
  rw [show K97 = 54 + K43 from rfl, Nat.pow_add]
theorem kc_val : valZ KC = ((8016673440035891 * 2 ^ K41 : Nat) : Int) := by decide +kernel
theorem kc_lt : valZ KC < ((2251799813685248 * 2 ^ K43 : Nat) : Int) := by
  rw [kc_val]
  have e : (2 : Nat) ^ K43 = 4 * 2 ^ K41 := by rw [show K43 = 2 + K41 from rfl, Nat.pow_add]
  rw [e]
  have := Nat.two_pow_pos K41
  generalize (2 : Nat) ^ K41 = P at *
  omega
/-- How much rounding may take away. -/
theorem RZ_lost {z : Int} (h : z.natAbs < 2 ^ K96) : 2 * (RZ z - z).natAbs ≤ 2 ^ K43 := by
  have hd := k96_d
  have hd7 := k97_d
  obtain ⟨k, h1, h2, h3, h4, h5⟩ := RZ_spec (z := z) (by
    have := Nat.two_pow_pos K43
    generalize (2 : Nat) ^ K43 = D at *
    omega)
  refine Nat.le_trans h2 ?_
  rcases h3 with h3 | h3
  · rw [h3]; exact Nat.one_le_two_pow
  · refine Nat.pow_le_pow_right (by omega) ?_
    have h6 : 2 ^ k < 2 ^ (K43 + 1) := by
      rw [Nat.pow_succ]
      generalize (2 : Nat) ^ K43 = D at *
      generalize (2 : Nat) ^ k = E at *
      omega
    have := (Nat.pow_lt_pow_iff_right (by omega : 1 < 2)).1 h6
    omega
theorem two_size {a b : Nat} (ha : finB a) (hb : finB b) (hA : magN a < 2 ^ K95) (hB : magN b < 2 ^ K95) : magN (twS a b) + magN (twL a b) ≤ magN a + magN b + 2 ^ K43 := by
  obtain ⟨h1, h2, h3, h4⟩ := two_exact ha hb hA hB
  rw [mag_abs] at hA hB
  rw [mag_abs, mag_abs, mag_abs, mag_abs]
  have hd := k95_d
  have hd6 := k96_d
  have h5 := RZ_lost (z := valZ a + valZ b) (by
    generalize (2 : Nat) ^ K43 = D at *
    omega)
  rw [← h4] at h5
  generalize (2 : Nat) ^ K43 = D at *
  omega
theorem nz_no {t : Nat} (ht : finB t) (h : nzB t = false) : valZ t = 0 := by
  have hz : finB 0 := ⟨by omega, by decide, by decide⟩
  have v0 : valZ 0 = 0 := by decide
  unfold nzB at h
  rw [fne64, feq_fin ht hz, v0] at h
  simpa using h
def sV : List Nat → Int
  | [] => 0
  | x :: r => valZ x + sV r
def aV : List Nat → Nat
  | [] => 0
  | x :: r => magN x + aV r
theorem sV_app : ∀ l m : List Nat, sV (l ++ m) = sV l + sV m
  | [], m => by show sV m = 0 + sV m; omega
  | x :: r, m => by show valZ x + sV (r ++ m) = valZ x + sV r + sV m; rw [sV_app r m]; omega
theorem aV_app : ∀ l m : List Nat, aV (l ++ m) = aV l + aV m
  | [], m => by show aV m = 0 + aV m; omega
  | x :: r, m => by show magN x + aV (r ++ m) = magN x + aV r + aV m; rw [aV_app r m]; omega
def sF (f : Nat → Nat) : Nat → Int
  | 0 => 0
  | k + 1 => sF f k + valZ (f k)
def aF (f : Nat → Nat) : Nat → Nat
  | 0 => 0
  | k + 1 => aF f k + magN (f k)
theorem aF_mono (f : Nat → Nat) : ∀ {n k : Nat}, k ≤ n → aF f k ≤ aF f n
  | 0, k, h => by rw [show k = 0 by omega]; exact Nat.le_refl _
  | n + 1, k, h => by
    by_cases e : k = n + 1
    · rw [e]; exact Nat.le_refl _
    · have := aF_mono f (n := n) (k := k) (by omega)
      show aF f k ≤ aF f n + magN (f n); omega
theorem sF_congr {f g : Nat → Nat} : ∀ n, (∀ i, i < n → f i = g i) → sF f n = sF g n
  | 0, _ => rfl
  | n + 1, h => by show sF f n + _ = sF g n + _; rw [sF_congr n fun i hi => h i (by omega), h n (by omega)]
theorem aF_congr {f g : Nat → Nat} : ∀ n, (∀ i, i < n → f i = g i) → aF f n = aF g n
  | 0, _ => rfl
  | n + 1, h => by show aF f n + _ = aF g n + _; rw [aF_congr n fun i hi => h i (by omega), h n (by omega)]
theorem sF_front (f : Nat → Nat) : ∀ n, sF f (n + 1) = valZ (f 0) + sF (fun i => f (i + 1)) n
  | 0 => by show (0 : Int) + valZ (f 0) = valZ (f 0) + 0; omega
  | n + 1 => by
    have := sF_front f n
    show sF f (n + 1) + valZ (f (n + 1)) = valZ (f 0) + (sF (fun i => f (i + 1)) n + valZ (f (n + 1)))
    rw [this]; omega
theorem aF_front (f : Nat → Nat) : ∀ n, aF f (n + 1) = magN (f 0) + aF (fun i => f (i + 1)) n
  | 0 => by show 0 + magN (f 0) = magN (f 0) + 0; omega
  | n + 1 => by
    have := aF_front f n
    show aF f (n + 1) + magN (f (n + 1)) = magN (f 0) + (aF (fun i => f (i + 1)) n + magN (f (n + 1)))
    rw [this]; omega
theorem sF_list : ∀ l : List Nat, sF (atL l) l.length = sV l
  | [] => rfl
  | x :: r => by
    show sF (atL (x :: r)) (r.length + 1) = _
    rw [sF_front]
    show valZ x + sF (fun i => atL (x :: r) (i + 1)) r.length = valZ x + sV r
    rw [← sF_list r]; rfl
theorem aF_list : ∀ l : List Nat, aF (atL l) l.length = aV l
  | [] => rfl
  | x :: r => by
    show aF (atL (x :: r)) (r.length + 1) = _
    rw [aF_front]
    show magN x + aF (fun i => atL (x :: r) (i + 1)) r.length = magN x + aV r
    rw [← aF_list r]; rfl
theorem atL_mem {l : List Nat} {i : Nat} (h : i < l.length) : atL l i ∈ l := by
  unfold atL
  rw [List.getD_eq_getElem?_getD, List.getElem?_eq_getElem h]
  exact List.getElem_mem h
theorem mag_mul {k D : Nat} : (k + 1) * D = k * D + D := by rw [Nat.add_mul, Nat.one_mul]
theorem gl_keeps (f : Nat → Nat) (q m : Nat) (hq : finB q) (hf : ∀ i, i < m → finB (f i)) (hb : magN q + aF f m + m * 2 ^ K43 < 2 ^ K95) : ∀ k, k ≤ m →
    finB (gq f q k) ∧ (∀ b ∈ gl f q k, finB b) ∧ valZ (gq f q k) + sV (gl f q k) = valZ q + sF f k ∧ magN (gq f q k) + aV (gl f q k) ≤ magN q + aF f k + k * 2 ^ K43
  | 0, _ => by
    have e : gq f q 0 = q := cn_of q hq.2.1
    rw [e]
    refine ⟨hq, fun b h => (by cases h), by show valZ q + 0 = valZ q + 0; rfl, by show magN q + 0 ≤ magN q + 0 + 0 * _; omega⟩
  | k + 1, h => by
    obtain ⟨i1, i2, i3, i4⟩ := gl_keeps f q m hq hf hb k (by omega)
    have m1 := aF_mono f (n := m) (k := k + 1) h
    have e1 : aF f (k + 1) = aF f k + magN (f k) := rfl
    have e2 : sF f (k + 1) = sF f k + valZ (f k) := rfl
    have m2 : (k + 1) * 2 ^ K43 ≤ m * 2 ^ K43 := Nat.mul_le_mul_right _ h
    have e3 : (k + 1) * 2 ^ K43 = k * 2 ^ K43 + 2 ^ K43 := mag_mul
    have hA : magN (gq f q k) < 2 ^ K95 := by
      generalize (2 : Nat) ^ K95 = X at *
      generalize (2 : Nat) ^ K43 = D at *
      generalize (k + 1) * D = P at *
      generalize k * D = Q at *
      generalize m * D = R at *
      omega
    have hB : magN (f k) < 2 ^ K95 := by
      generalize (2 : Nat) ^ K95 = X at *
      generalize (2 : Nat) ^ K43 = D at *
      generalize m * D = R at *
      omega
    obtain ⟨t1, t2, t3, t4⟩ := two_exact i1 (hf k (by omega)) hA hB
    have t5 := two_size i1 (hf k (by omega)) hA hB
    have eq1 : gq f q (k + 1) = twS (gq f q k) (f k) := rfl
    have eg1 : gl f q (k + 1) = gl f q k ++ (if nzB (twL (gq f q k) (f k)) then [twL (gq f q k) (f k)] else []) := rfl
    rw [eq1, eg1, sV_app, aV_app, e1, e2, e3]
    generalize twL (gq f q k) (f k) = L at *
    generalize twS (gq f q k) (f k) = S at *
    clear hb m2 e3
    generalize (2 : Nat) ^ K43 = D at *
    generalize k * D = Q at *
    cases hz : nzB L
    · rw [if_neg Bool.false_ne_true, List.append_nil]
      have z := nz_no t2 hz
      have zm : magN L = 0 := by rw [mag_abs, z]; rfl
      refine ⟨t1, i2, by show valZ S + (sV _ + 0) = _; omega, by show magN S + (aV _ + 0) ≤ _; omega⟩
    · rw [if_pos rfl]
      refine ⟨t1, fun b hb => ?_, by show valZ S + (sV _ + (valZ L + 0)) = _; omega, by show magN S + (aV _ + (magN L + 0)) ≤ _; omega⟩
      rcases List.mem_append.1 hb with h | h
      · exact i2 b h
      · rw [List.mem_singleton.1 h]; exact t2
theorem grow_keeps (f : Nat → Nat) (q m : Nat) (hq : finB q) (hf : ∀ i, i < m → finB (f i)) (hb : magN q + aF f m + m * 2 ^ K43 < 2 ^ K95) :
    (∀ b ∈ growV f q m, finB b) ∧ sV (growV f q m) = valZ q + sF f m ∧ aV (growV f q m) ≤ magN q + aF f m + m * 2 ^ K43 := by
  obtain ⟨i1, i2, i3, i4⟩ := gl_keeps f q m hq hf hb m (Nat.le_refl _)
  unfold growV
  rw [sV_app, aV_app]
  generalize gq f q m = S at *
  cases hz : nzB S
  · rw [if_neg Bool.false_ne_true, List.append_nil]
    have z := nz_no i1 hz
    have zm : magN S = 0 := by rw [mag_abs, z]; rfl
    exact ⟨i2, by show sV _ + 0 = _; omega, by show aV _ + 0 ≤ _; omega⟩
  · rw [if_pos rfl]
    refine ⟨fun b hb => ?_, by show sV _ + (valZ S + 0) = _; omega, by show aV _ + (magN S + 0) ≤ _; omega⟩
    rcases List.mem_append.1 hb with h | h
    · exact i2 b h
    · rw [List.mem_singleton.1 h]; exact i1
def lsD (D : Nat) : Nat → Nat
  | 0 => 0
  | k + 1 => lsD D k + 300 * D
theorem lsD_le (D : Nat) : ∀ k, lsD D k = k * (300 * D)
  | 0 => by rw [Nat.zero_mul]; rfl
  | k + 1 => by show lsD D k + 300 * D = _; rw [lsD_le D k, Nat.add_mul, Nat.one_mul]
theorem lsD_top {D k : Nat} (h : k ≤ 300) : lsD D k ≤ 90000 * D := by
  rw [lsD_le]
  have := Nat.mul_le_mul_right (300 * D) h
  omega
theorem exp_keeps (f : Nat → Nat) (n : Nat) (hn : n ≤ 300) (hf : ∀ i, i < n → finB (f i)) (hb : aF f n + 90300 * 2 ^ K43 < 2 ^ K95) (k : Nat) : k ≤ n →
    (∀ b ∈ expV f k, finB b) ∧ sV (expV f k) = sF f k ∧ aV (expV f k) ≤ aF f k + lsD (2 ^ K43) k := by
  induction k with
  | zero => exact fun _ => ⟨fun b h => (by cases h), rfl, Nat.zero_le _⟩
  | succ k ih =>
    intro h
    obtain ⟨i1, i2, i3⟩ := ih (by omega)
    have hl := expV_len f k
    have m1 := aF_mono f (n := n) (k := k + 1) h
    have e1 : aF f (k + 1) = aF f k + magN (f k) := rfl
    have e2 : sF f (k + 1) = sF f k + valZ (f k) := rfl
    have c1 : (expV f k).length * 2 ^ K43 ≤ 300 * 2 ^ K43 := Nat.mul_le_mul_right _ (by omega)
    have c2 : lsD (2 ^ K43) (k + 1) = lsD (2 ^ K43) k + 300 * 2 ^ K43 := rfl
    have c3 : lsD (2 ^ K43) (k + 1) ≤ 90000 * 2 ^ K43 := lsD_top (by omega)
    have hg := grow_keeps (atL (expV f k)) (f k) (expV f k).length (hf k (by omega)) (fun i hi => i1 _ (atL_mem hi)) (by
      rw [aF_list]
      clear ih
      generalize lsD (2 ^ K43) (k + 1) = P at *
      generalize lsD (2 ^ K43) k = Q at *
      generalize (expV f k).length * 2 ^ K43 = R at *
      generalize (2 : Nat) ^ K95 = X at *
      generalize (2 : Nat) ^ K43 = D at *
      omega)
    rw [sF_list, aF_list] at hg
    obtain ⟨g1, g2, g3⟩ := hg
    have e3 : expV f (k + 1) = growV (atL (expV f k)) (f k) (expV f k).length := rfl
    rw [e3]
    refine ⟨g1, by omega, ?_⟩
    clear hb ih
    generalize lsD (2 ^ K43) (k + 1) = P at *
    generalize lsD (2 ^ K43) k = Q at *
    generalize (expV f k).length * 2 ^ K43 = R at *
    generalize (2 : Nat) ^ K43 = D at *
    omega
/-! ### The float sum of sizes -/
def sumS (f : Nat → Nat) : Nat → Nat
  | 0 => 0
  | k + 1 => arV .add (sumS f k) (sizV (f k))
def NonNeg (s : Nat) : Prop := (finB s ∧ 0 ≤ valZ s) ∨ nan64 s = true ∨ s = 9218868437227405312
theorem siz_kind {b : Nat} (hb : b < 2 ^ 64) : NonNeg (sizV b) ∧ (finB (sizV b) → finB b) := by
  have nI : ¬ finB 9218868437227405312 := fun g => by have := g.2.2; revert this; decide
  rcases three_kinds hb with ⟨h1, h2⟩ | ⟨h1, h2, h3, h4⟩ | h1
  · have e : sizV b = b := by unfold sizV; rw [flt64, h1]; rfl
    rw [e]
    exact ⟨.inr (.inl h1), id⟩
  · have e : sizV b = 9218868437227405312 := by
      rw [h3]; cases negB b <;> decide +kernel
    rw [e]
    exact ⟨.inr (.inr rfl), fun h => absurd h nI⟩
  · exact ⟨.inl ⟨(siz_fin h1).1, by rw [(siz_fin h1).2]; omega⟩, fun _ => h1⟩
theorem rz_le (n : Nat) : rz n ≤ 9218868437227405312 := rnd_lt n _
theorem add_kind {s z : Nat} (hs : NonNeg s) (hz : NonNeg z) : NonNeg (arV .add s z) := by
  have rI : Ieee.double.read 9218868437227405312 = .infinity false := by decide +kernel
  rcases hs with ⟨a1, a2⟩ | a1 | rfl
  · rcases hz with ⟨b1, b2⟩ | b1 | rfl
    · rw [arV_add_fin a1 b1]
      generalize hsg : (if valZ s + valZ z = 0 then negB s && negB z else decide (valZ s + valZ z < 0)) = sg
      by_cases hi : rz (valZ s + valZ z).natAbs = 9218868437227405312
      · rw [hi]
        by_cases h0 : valZ s + valZ z = 0
        · rw [h0] at hi
          exact absurd hi (by decide)
        · rw [if_neg h0, decide_eq_false (by omega)] at hsg
          rw [← hsg]; exact .inr (.inr rfl)
      · have hlt : rz (valZ s + valZ z).natAbs < 9218868437227405312 := Nat.lt_of_le_of_ne (rz_le _) hi
        obtain ⟨g1, g2, g3⟩ := wrd_lt sg (rz (valZ s + valZ z).natAbs) (by omega)
        refine .inl ⟨⟨g1, nan_wrd _ _ (by omega), by unfold infB; rw [g2]; exact decide_eq_false (by omega)⟩, ?_⟩
        rw [valZ_wrd _ _ (by omega)]
        by_cases h0 : valZ s + valZ z = 0
        · rw [h0]
          have : rv (rz (Int.natAbs 0)) = 0 := by decide
          rw [this]; split <;> omega
        · rw [if_neg h0, decide_eq_false (by omega)] at hsg
          rw [← hsg, if_neg Bool.false_ne_true]; omega
    · rw [arV_nan (.inr b1)]; exact .inr (.inl (by decide))
    · rw [arV_infr a1 rI]; exact .inr (.inr (by decide))
  · rw [arV_nan (.inl a1)]; exact .inr (.inl (by decide))
  · rcases hz with ⟨b1, b2⟩ | b1 | rfl
    · rw [arV_infl rI b1]; exact .inr (.inr (by decide))
    · rw [arV_nan (.inr b1)]; exact .inr (.inl (by decide))
    · rw [arV_inf2 rI rI]; exact .inr (.inr (by decide))
theorem sumS_kind (f : Nat → Nat) : ∀ n, (∀ i, i < n → f i < 2 ^ 64) → NonNeg (sumS f n)
  | 0, _ => by show NonNeg 0; exact .inl ⟨⟨by decide, by decide, by decide⟩, by decide⟩
  | n + 1, h => add_kind (sumS_kind f n fun i hi => h i (by omega)) (siz_kind (h n (by omega))).1
theorem nonneg_fin {s : Nat} (h : NonNeg s) (hf : finB s) : 0 ≤ valZ s := by
  rcases h with h | h | rfl
  · exact h.2
  · rw [hf.2.1] at h; cases h
  · have := hf.2.2; revert this; decide
theorem rne_mono {M N : Nat} (k : Nat) (h : M ≤ N) : rne M k ≤ rne N k := by
  have hd : M / 2 ^ k ≤ N / 2 ^ k := Nat.div_le_div_right h
  have h1 := Nat.div_add_mod M (2 ^ k)
  have h2 := Nat.div_add_mod N (2 ^ k)
  unfold rne
  generalize M / 2 ^ k = q at *
  generalize N / 2 ^ k = q' at *
  rcases Nat.lt_or_ge q q' with hq | hq
  · split <;> split <;> omega
  · obtain rfl : q = q' := by omega
    have hr : M % 2 ^ k ≤ N % 2 ^ k := by omega
    split <;> split <;> omega
theorem log2_mono {M N : Nat} (h0 : M ≠ 0) (h : M ≤ N) : M.log2 ≤ N.log2 :=
  (Nat.le_log2 (by omega)).2 (Nat.le_trans (Nat.log2_self_le h0) h)
theorem kept_mono {f e M N : Nat} {E : Int} (h : M ≤ N) (hk : kap f e M E = kap f e N E) : keptN f e M E ≤ keptN f e N E := by
  unfold keptN
  rw [hk]
  split
  · exact rne_mono _ h
  · exact Nat.mul_le_mul_right _ h
theorem rnd_mono {f e M N : Nat} (E : Int) (h : M ≤ N) : rndN f e M E ≤ rndN f e N E := by
  unfold rndN
  by_cases h0 : M = 0
  · rw [if_pos h0]; exact Nat.zero_le _
  · rw [if_neg h0, if_neg (by omega)]
    have hl := log2_mono h0 h
    have hk : kap f e M E ≤ kap f e N E := by unfold kap; omega
    obtain ⟨a1, a2, a3⟩ := kept_facts f e M E h0
    obtain ⟨b1, b2, b3⟩ := kept_facts f e N E (by omega)
    have hmono : (E + kap f e M E - lst f e).toNat * 2 ^ f + keptN f e M E ≤ (E + kap f e N E - lst f e).toNat * 2 ^ f + keptN f e N E := by
      by_cases he : kap f e M E = kap f e N E
      · have := kept_mono h he
        rw [he]
        omega
      · have h1 : 2 ^ f ≤ keptN f e N E := Decidable.byContradiction fun hn => by
          have := b2 (by omega); omega
        have h2 : (E + kap f e M E - lst f e).toNat + 1 ≤ (E + kap f e N E - lst f e).toNat := by omega
        have h3 : ((E + kap f e M E - lst f e).toNat + 1) * 2 ^ f ≤ (E + kap f e N E - lst f e).toNat * 2 ^ f := Nat.mul_le_mul_right _ h2
        rw [Nat.add_mul, Nat.one_mul] at h3
        rw [Nat.pow_succ] at a1
        omega
    omega
theorem rv_mono {r s : Nat} (h : r ≤ s) (h2 : s ≤ 9218868437227405312) : rv r ≤ rv s :=
  Nat.le_of_not_lt fun g => by have := (rv_lt_iff h2 (by omega)).1 g; omega
theorem rv_top : rv (rz (2 ^ K96)) = 2 ^ K96 := by
  have hpos := Nat.two_pow_pos K96
  have hd : (2 : Nat) ^ K97 = 2 * 2 ^ K96 := by rw [show K97 = K96 + 1 from rfl, Nat.pow_succ]; omega
  have h := RZ_id (z := ((2 ^ K96 : Nat) : Int)) (by rw [Int.natAbs_natCast]; omega) ⟨K96, Int.dvd_refl _, by rw [Int.natAbs_natCast]; omega⟩
  unfold RZ at h
  rw [Int.natAbs_natCast, decide_eq_false (by omega)] at h
  unfold sgn at h
  rw [if_neg Bool.false_ne_true] at h
  exact Int.ofNat.inj h
theorem sum_step {s z : Nat} (hs : finB s) (hz : finB z) (p : 0 ≤ valZ s) (q : 0 ≤ valZ z) (hb : valZ (arV .add s z) < ((2251799813685248 * 2 ^ K43 : Nat) : Int)) :
    valZ s + valZ z ≤ valZ (arV .add s z) + ((2 ^ K43 : Nat) : Int) ∧ valZ s ≤ valZ (arV .add s z) := by
  have hd := k96_d
  have hd7 := k97_d
  have hpos := Nat.two_pow_pos K43
  have hn : (valZ s + valZ z).natAbs < 2 ^ K96 := Decidable.byContradiction fun hge => by
    have h1 : rz (2 ^ K96) ≤ rz (valZ s + valZ z).natAbs := rnd_mono _ (by omega)
    have h2 := rv_mono h1 (rz_le _)
    rw [rv_top] at h2
    have hne : valZ s + valZ z ≠ 0 := fun e => by
      rw [e] at hge
      generalize (2 : Nat) ^ K43 = D at *
      generalize (2 : Nat) ^ K96 = X at *
      omega
    rw [arV_add_fin hs hz, if_neg hne, decide_eq_false (by omega), valZ_wrd _ _ (rz_le _), if_neg Bool.false_ne_true] at hb
    generalize rv (rz (valZ s + valZ z).natAbs) = R at *
    generalize (2 : Nat) ^ K43 = D at *
    generalize (2 : Nat) ^ K96 = X at *
    omega
  have h7 : (valZ s + valZ z).natAbs < 2 ^ K97 := by
    generalize (2 : Nat) ^ K43 = D at *
    omega
  have h3 := (add_R hs hz h7).2
  have h4 := RZ_lost hn
  have h5 := near_any h7 (fz_fin hs)
  rw [← h3] at h4 h5
  generalize (2 : Nat) ^ K43 = D at *
  omega
theorem sum_back (f : Nat → Nat) (n : Nat) : (∀ i, i < n → f i < 2 ^ 64) → finB (sumS f n) → valZ (sumS f n) < ((2251799813685248 * 2 ^ K43 : Nat) : Int) →
    (∀ i, i < n → finB (f i)) ∧ (aF f n : Int) ≤ valZ (sumS f n) + ((n * 2 ^ K43 : Nat) : Int) := by
  induction n with
  | zero =>
    intro _ _ _
    refine ⟨fun i hi => by omega, ?_⟩
    show (0 : Int) ≤ valZ 0 + ((0 * 2 ^ K43 : Nat) : Int)
    rw [show valZ 0 = 0 by decide, Nat.zero_mul]; decide
  | succ n ih =>
    intro h hf hv
    have h1 := sumS_kind f n fun i hi => h i (by omega)
    obtain ⟨h2, h3⟩ := siz_kind (h n (by omega))
    have hlt : sumS f n < 2 ^ 64 := by
      cases n with
      | zero => show (0 : Nat) < 2 ^ 64; omega
      | succ k => exact arV_lt _ _ _
    have hzl : sizV (f n) < 2 ^ 64 := by
      unfold sizV; split
      · exact (flip_parts (h n (by omega))).2.2
      · exact h n (by omega)
    obtain ⟨f1, f2⟩ := add_fin_both hlt hzl hf
    have hs := sum_step f1 f2 (nonneg_fin h1 f1) (nonneg_fin h2 f2) hv
    obtain ⟨i1, i2⟩ := ih (fun i hi => h i (by omega)) f1 (Int.lt_of_le_of_lt hs.2 hv)
    have hfn := h3 f2
    have hm := (siz_fin hfn).2
    refine ⟨fun i hi => ?_, ?_⟩
    · by_cases e : i = n
      · rw [e]; exact hfn
      · exact i1 i (by omega)
    · have e1 : aF f (n + 1) = aF f n + magN (f n) := rfl
      have e2 : (n + 1) * 2 ^ K43 = n * 2 ^ K43 + 2 ^ K43 := mag_mul
      have e3 := hs.1
      have e4 : sumS f (n + 1) = arV .add (sumS f n) (sizV (f n)) := rfl
      rw [e4, e1, e2]
      clear hv ih
      generalize (2 : Nat) ^ K43 = D at *
      generalize n * D = Q at *
      omega
theorem sum_small {f : Nat → Nat} {n : Nat} (hn : n ≤ 300) (h : ∀ i, i < n → f i < 2 ^ 64) (hl : flt .f64 (sumS f n) KC = true) : (∀ i, i < n → finB (f i)) ∧ aF f n + 90300 * 2 ^ K43 < 2 ^ K95 := by
  have hC : finB KC := ⟨by decide, by decide, by decide⟩
  have hk := sumS_kind f n h
  have hfin : finB (sumS f n) := by
    rcases hk with hk | hk | hk
    · exact hk.1
    · rw [flt64, hk] at hl; simp at hl
    · rw [hk] at hl; exact absurd hl (by decide)
  have hv : valZ (sumS f n) < ((2251799813685248 * 2 ^ K43 : Nat) : Int) := by
    rw [flt_fin hfin hC] at hl
    exact Int.lt_trans (of_decide_eq_true hl) kc_lt
  obtain ⟨b1, b2⟩ := sum_back f n h hfin hv
  refine ⟨b1, ?_⟩
  have hd := k95_d
  have c1 : n * 2 ^ K43 ≤ 300 * 2 ^ K43 := Nat.mul_le_mul_right _ hn
  have hpos := Nat.two_pow_pos K43
  generalize (2 : Nat) ^ K43 = D at *
  omega
/-! ### What the law asks -/
theorem finAll_of {f : Nat → Nat} : ∀ n, (∀ i, i < n → finB (f i)) → finAll f n = true
  | 0, _ => rfl
  | n + 1, h => by
    unfold finAll
    rw [finAll_of n fun i hi => h i (by omega), (finF_iff (h n (by omega)).1).2 (h n (by omega))]; rfl
theorem exSum_sF {f : Nat → Nat} : ∀ n, (∀ i, i < n → finB (f i)) → exSum f n = sF f n
  | 0, _ => rfl
  | n + 1, h => by
    show exSum f n + (if finF (f n) then valZ (f n) else 0) = sF f n + valZ (f n)
    rw [exSum_sF n fun i hi => h i (by omega), if_pos ((finF_iff (h n (by omega)).1).2 (h n (by omega)))]
theorem cn_list : ∀ {xs ys : List Nat}, xs.map cn = ys → (∀ y ∈ ys, finB y) → xs = ys
  | [], _, h, _ => h
  | x :: r, [], h, _ => by cases h
  | x :: r, y :: s, h, hy => by
    rw [List.map_cons, List.cons.injEq] at h
    rw [cn_eq h.1 (hy y List.mem_cons_self).2.1, cn_list h.2 fun z hz => hy z (List.mem_cons_of_mem _ hz)]
theorem exact_same {f g : Nat → Nat} {n m : Nat} (hf : ∀ i, i < n → finB (f i)) (hg : ∀ i, i < m → finB (g i)) (hs : exSum f n = exSum g m) : feq .f64 (exactV f n) (exactV g m) = true := by
  have fin : ∀ {f : Nat → Nat} {n : Nat}, (∀ i, i < n → finB (f i)) → exN f n = false ∧ exP f n = false ∧ exL f n = false := fun {f n} hf =>
    ⟨by rw [exN_fold]; exact fold_false _ fun i hi => (hf i hi).2.1,
     by rw [exP_fold]; exact fold_false _ fun i hi => by unfold eP; rw [(hf i hi).2.2]; simp,
     by rw [exL_fold]; exact fold_false _ fun i hi => by unfold eL; rw [(hf i hi).2.2]; simp⟩
  obtain ⟨a1, a2, a3⟩ := fin hf
  obtain ⟨b1, b2, b3⟩ := fin hg
  unfold exactV
  rw [a1, a2, a3, b1, b2, b3, hs]
  generalize exSum g m = T
  generalize exS f n = s1
  generalize exM f n = m1
  generalize exS g m = s2
  generalize exM g m = m2
  unfold exV
  simp only [Bool.and_false, Bool.or_false, if_neg Bool.false_ne_true]
  by_cases h0 : T = 0
  · rw [if_pos h0, if_pos h0]
    split <;> split <;> decide
  · rw [if_neg h0, if_neg h0]
    refine feq_self64 _ ?_
    unfold fvN
    exact nan_wrd _ _ (rnd_lt _ _)
theorem sgnI_neg (z : Int) : sgnI (-z) = -sgnI z := by unfold sgnI; split <;> split <;> (try split) <;> (try split) <;> omega
theorem cmpV_turn (f g : Nat → Nat) (n m : Nat) : cmpV f g n m = -cmpV g f m n := by
  unfold cmpV
  rw [Bool.and_comm, show exSum f n - exSum g m = -(exSum g m - exSum f n) by omega, sgnI_neg]
  split <;> omega
/-- What the law says of an expansion. -/
theorem expand_same {f : Nat → Nat} {n : Nat} {xs : List Nat} (hn : n ≤ 300) (h : ∀ i, i < n → f i < 2 ^ 64) (hl : flt .f64 (sumS f n) KC = true) (hx : xs.map cn = expV f n) :
    xs.length ≤ n ∧ (∀ j, j < xs.length → atL xs j < 2 ^ 64) ∧ finAll (atL xs) xs.length = true ∧ finAll f n = true ∧ cmpV (atL xs) f xs.length n = 0 ∧ feq .f64 (exactV (atL xs) xs.length) (exactV f n) = true := by
  obtain ⟨s1, s2⟩ := sum_small hn h hl
  obtain ⟨e1, e2, e3⟩ := exp_keeps f n hn s1 s2 n (Nat.le_refl _)
  have hxs := cn_list hx e1
  have hlen := expV_len f n
  rw [← hxs] at e1 e2 hlen
  have fx : ∀ i, i < xs.length → finB (atL xs i) := fun i hi => e1 _ (atL_mem hi)
  have hs : exSum (atL xs) xs.length = exSum f n := by
    rw [exSum_sF _ fx, exSum_sF _ s1, sF_list, e2]
  have fa := finAll_of _ fx
  have fb := finAll_of _ s1
  refine ⟨hlen, fun j hj => (fx j hj).1, fa, fb, ?_, exact_same fx s1 hs⟩
  rw [cmpV_fin fa fb, hs, Int.sub_self]; rfl
end Go.Proofs.Ytjakjnmfndfehaa
