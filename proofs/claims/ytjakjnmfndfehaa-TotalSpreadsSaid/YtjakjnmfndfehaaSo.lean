/- Plain facts: a stable order by keys; blocks merged in place by rotations (SymMerge). No condition. -/
import Derived.Test.YtjakjnmfndfehaaPl
namespace Go.Pst
set_option linter.unusedVariables false
/-- The strict order: by the key, then by the place at first. -/
def lt3 (k : Nat → Nat) (i j : Nat) : Prop := k i < k j ∨ (k i = k j ∧ i < j)
theorem lt3_trans {k : Nat → Nat} {a b c : Nat} (h1 : lt3 k a b) (h2 : lt3 k b c) : lt3 k a c := by unfold lt3 at *; omega
theorem lt3_not {k : Nat → Nat} {a b : Nat} (h : ¬ k b < k a) (hi : a < b) : lt3 k a b := by unfold lt3; omega
theorem lt3_of {k : Nat → Nat} {a b : Nat} (h : k a < k b) : lt3 k a b := .inl h
theorem lt3_asymm {k : Nat → Nat} {a b : Nat} (h1 : lt3 k a b) (h2 : lt3 k b a) : False := by unfold lt3 at *; omega
theorem lt3_key {k : Nat → Nat} {a b : Nat} (h1 : lt3 k a b) : ¬ k b < k a := by unfold lt3 at *; omega
/-- A change of places within a part. -/
def Pm (a b : Nat) (s : Nat → Nat) : Prop := ∃ t : Nat → Nat, (∀ p, s (t p) = p) ∧ (∀ p, t (s p) = p) ∧ ∀ p, p < a ∨ b ≤ p → s p = p
theorem Pm.out {a b : Nat} {s : Nat → Nat} (h : Pm a b s) {p : Nat} (hp : p < a ∨ b ≤ p) : s p = p := by obtain ⟨t, _, _, h3⟩ := h; exact h3 p hp
theorem Pm.inj {a b : Nat} {s : Nat → Nat} (h : Pm a b s) {p q : Nat} (hp : s p = s q) : p = q := by
  obtain ⟨t, _, h2, _⟩ := h
  rw [← h2 p, hp, h2]
theorem Pm.mem {a b : Nat} {s : Nat → Nat} (h : Pm a b s) {p : Nat} (h1 : a ≤ p) (h2 : p < b) : a ≤ s p ∧ s p < b := by
  rcases Nat.lt_or_ge (s p) a with h3 | h3
  · have := h.inj (h.out (.inl h3)); omega
  · rcases Nat.lt_or_ge (s p) b with h4 | h4
    · exact ⟨h3, h4⟩
    · have := h.inj (h.out (.inr h4)); omega
theorem Pm.same (a b : Nat) : Pm a b (fun p => p) := ⟨fun p => p, fun _ => rfl, fun _ => rfl, fun _ _ => rfl⟩
theorem Pm.comp {a b : Nat} {s r : Nat → Nat} (h1 : Pm a b s) (h2 : Pm a b r) : Pm a b (fun p => s (r p)) := by
  obtain ⟨t, a1, a2, a3⟩ := h1
  obtain ⟨u, b1, b2, b3⟩ := h2
  exact ⟨fun p => u (t p), fun p => by simp only [b1, a1], fun p => by simp only [b2, a2], fun p hp => by simp only [b3 p hp, a3 p hp]⟩
theorem Pm.wide {a b a' b' : Nat} {s : Nat → Nat} (h : Pm a b s) (h1 : a' ≤ a) (h2 : b ≤ b') : Pm a' b' s := by
  obtain ⟨t, a1, a2, a3⟩ := h
  exact ⟨t, a1, a2, fun p hp => a3 p (by omega)⟩
def swP (i j p : Nat) : Nat := if p = i then j else if p = j then i else p
theorem swP_pm {a b i j : Nat} (h1 : a ≤ i) (h2 : i < b) (h3 : a ≤ j) (h4 : j < b) : Pm a b (swP i j) := by
  have h : ∀ p, swP i j (swP i j p) = p := fun p => by unfold swP; (repeat' split) <;> omega
  exact ⟨swP i j, h, h, fun p hp => by unfold swP; rw [if_neg (by omega), if_neg (by omega)]⟩
/-- Two neighbouring parts change places. -/
def rotP (a m b p : Nat) : Nat := if a ≤ p ∧ p < a + (b - m) then p + (m - a) else if a + (b - m) ≤ p ∧ p < b then p - (b - m) else p
theorem rotP_inv {a m b : Nat} (h1 : a ≤ m) (h2 : m ≤ b) (p : Nat) : rotP a m b (rotP a (a + (b - m)) b p) = p := by
  unfold rotP; (repeat' split) <;> omega
theorem rotP_pm {a m b : Nat} (h1 : a ≤ m) (h2 : m ≤ b) : Pm a b (rotP a m b) := by
  refine ⟨rotP a (a + (b - m)) b, rotP_inv h1 h2, fun p => ?_, fun p hp => ?_⟩
  · have := rotP_inv (a := a) (m := a + (b - m)) (b := b) (by omega) (by omega) p
    rwa [show a + (b - (a + (b - m))) = m by omega] at this
  · unfold rotP; rw [if_neg (by omega), if_neg (by omega)]
/-- Two parts of so many change places. -/
def swR (a b n p : Nat) : Nat := if a ≤ p ∧ p < a + n then p + (b - a) else if b ≤ p ∧ p < b + n then p - (b - a) else p
theorem swR_zero (a b : Nat) : swR a b 0 = fun p => p := by
  funext p; unfold swR; rw [if_neg (by omega), if_neg (by omega)]
theorem swR_succ {a b i : Nat} (h : a + i < b) (p : Nat) : swR a b i (swP (a + i) (b + i) p) = swR a b (i + 1) p := by
  unfold swR swP; (repeat' split) <;> omega
theorem rot_more {m i j : Nat} (h : j < i) (hm : i ≤ m) (p : Nat) : swR (m - i) m j (rotP (m - i + j) m (m + j) p) = rotP (m - i) m (m + j) p := by
  unfold swR rotP; (repeat' split) <;> omega
theorem rot_less {m i j : Nat} (h : i < j) (hm : i ≤ m) (p : Nat) : swR (m - i) (m + j - i) i (rotP (m - i) m (m + j - i) p) = rotP (m - i) m (m + j) p := by
  unfold swR rotP; (repeat' split) <;> omega
theorem rot_same {m i : Nat} (hm : i ≤ m) (p : Nat) : swR (m - i) m i p = rotP (m - i) m (m + i) p := by
  unfold swR rotP; (repeat' split) <;> omega
theorem rot_up {a i p : Nat} (h : a ≤ i) : rotP a (a + 1) (i + 1) (swP i (i + 1) p) = rotP a (a + 1) (i + 2) p := by
  unfold rotP swP; (repeat' split) <;> omega
theorem rot_up0 {a p : Nat} : rotP a (a + 1) (a + 1) p = p := by unfold rotP; (repeat' split) <;> omega
theorem rot_down {m i p : Nat} (h : i + 1 ≤ m) : rotP (i + 1) m (m + 1) (swP (i + 1) i p) = rotP i m (m + 1) p := by
  unfold rotP swP; (repeat' split) <;> omega
theorem rot_down0 {m p : Nat} : rotP m m (m + 1) p = p := by unfold rotP; (repeat' split) <;> omega
section
variable {k π : Nat → Nat}
/-- In order. -/
def Srt (k π : Nat → Nat) (a b : Nat) : Prop := ∀ p q, a ≤ p → p < q → q < b → lt3 k (π p) (π q)
/-- What stands ahead stood ahead at first. -/
def Ahd (π : Nat → Nat) (a m b : Nat) : Prop := ∀ p q, a ≤ p → p < m → m ≤ q → q < b → π p < π q
theorem Srt.le {a b p q : Nat} (h : Srt k π a b) (h1 : a ≤ p) (h2 : p ≤ q) (h3 : q < b) : π p = π q ∨ lt3 k (π p) (π q) := by
  rcases Nat.eq_or_lt_of_le h2 with e | e
  · exact .inl (by rw [e])
  · exact .inr (h p q h1 e h3)
theorem lt3_le_l {a b c : Nat} (h1 : a = b ∨ lt3 k a b) (h2 : lt3 k b c) : lt3 k a c := by
  rcases h1 with h | h
  · rw [h]; exact h2
  · exact lt3_trans h h2
theorem lt3_le_r {a b c : Nat} (h1 : lt3 k a b) (h2 : b = c ∨ lt3 k b c) : lt3 k a c := by
  rcases h2 with h | h
  · rw [← h]; exact h1
  · exact lt3_trans h1 h
theorem rot_1 {a m b p : Nat} (h1 : a ≤ p) (h2 : p < a + (b - m)) : rotP a m b p = p + (m - a) := by unfold rotP; rw [if_pos ⟨h1, h2⟩]
theorem rot_2 {a m b p : Nat} (h1 : a + (b - m) ≤ p) (h2 : p < b) : rotP a m b p = p - (b - m) := by unfold rotP; rw [if_neg (by omega), if_pos ⟨h1, h2⟩]
theorem rot_0 {a m b p : Nat} (h1 : p < a ∨ b ≤ p) (h : a ≤ m ∧ m ≤ b) : rotP a m b p = p := by unfold rotP; rw [if_neg (by omega), if_neg (by omega)]
/-- One step of the merge: behind the rotation the lesser ones stand in the first half. -/
theorem merge_step {a m b s e d : Nat} (hs : Srt k π a m) (ht : Srt k π m b) (ha : Ahd π a m b) (h1 : a ≤ s) (h2 : s ≤ m) (h3 : m ≤ e) (h4 : e ≤ b) (hd : d = s + (e - m))
    (hl : a < s → e < b → lt3 k (π (s - 1)) (π e)) (hg : s < m → m < e → lt3 k (π (e - 1)) (π s)) :
    (Srt k (fun p => π (rotP s m e p)) a s ∧ Srt k (fun p => π (rotP s m e p)) s d ∧ Ahd (fun p => π (rotP s m e p)) a s d) ∧
    (Srt k (fun p => π (rotP s m e p)) d e ∧ Srt k (fun p => π (rotP s m e p)) e b ∧ Ahd (fun p => π (rotP s m e p)) d e b) ∧
    (∀ p q, a ≤ p → p < d → d ≤ q → q < b → lt3 k (π (rotP s m e p)) (π (rotP s m e q))) := by
  subst hd
  have r0 : ∀ p, p < s → rotP s m e p = p := fun p hp => rot_0 (.inl hp) ⟨h2, h3⟩
  have r3 : ∀ p, e ≤ p → rotP s m e p = p := fun p hp => rot_0 (.inr hp) ⟨h2, h3⟩
  have r1 : ∀ p, s ≤ p → p < s + (e - m) → rotP s m e p = p + (m - s) := fun p => rot_1
  have r2 : ∀ p, s + (e - m) ≤ p → p < e → rotP s m e p = p - (e - m) := fun p => rot_2
  refine ⟨⟨fun p q x1 x2 x3 => ?_, fun p q x1 x2 x3 => ?_, fun p q x1 x2 x3 x4 => ?_⟩, ⟨fun p q x1 x2 x3 => ?_, fun p q x1 x2 x3 => ?_, fun p q x1 x2 x3 x4 => ?_⟩, fun p q x1 x2 x3 x4 => ?_⟩
  · simp only [r0 p (by omega), r0 q (by omega)]; exact hs p q x1 x2 (by omega)
  · simp only [r1 p (by omega) (by omega), r1 q (by omega) (by omega)]; exact ht _ _ (by omega) (by omega) (by omega)
  · simp only [r0 p (by omega), r1 q (by omega) (by omega)]; exact ha _ _ (by omega) (by omega) (by omega) (by omega)
  · simp only [r2 p (by omega) (by omega), r2 q (by omega) (by omega)]; exact hs _ _ (by omega) (by omega) (by omega)
  · simp only [r3 p (by omega), r3 q (by omega)]; exact ht _ _ (by omega) (by omega) (by omega)
  · simp only [r2 p (by omega) (by omega), r3 q (by omega)]; exact ha _ _ (by omega) (by omega) (by omega) (by omega)
  · by_cases c1 : p < s
    · by_cases c2 : q < e
      · rw [r0 p c1, r2 q x3 c2]; exact hs _ _ (by omega) (by omega) (by omega)
      · rw [r0 p c1, r3 q (by omega)]
        exact lt3_le_l (hs.le (q := s - 1) x1 (by omega) (by omega)) (lt3_le_r (hl (by omega) (by omega)) (ht.le (by omega) (by omega) (by omega)))
    · by_cases c2 : q < e
      · rw [r1 p (by omega) x2, r2 q x3 c2]
        exact lt3_le_l (ht.le (q := e - 1) (by omega) (by omega) (by omega)) (lt3_le_r (hg (by omega) (by omega)) (hs.le (by omega) (by omega) (by omega)))
      · rw [r1 p (by omega) x2, r3 q (by omega)]; exact ht _ _ (by omega) (by omega) (by omega)
theorem Srt.glue {a d b : Nat} (h1 : Srt k π a d) (h2 : Srt k π d b) (h3 : ∀ p q, a ≤ p → p < d → d ≤ q → q < b → lt3 k (π p) (π q)) : Srt k π a b := fun p q x1 x2 x3 => by
  by_cases c1 : q < d
  · exact h1 p q x1 x2 c1
  · by_cases c2 : p < d
    · exact h3 p q x1 c2 (by omega) x3
    · exact h2 p q (by omega) x2 x3
theorem Srt.congr {π' : Nat → Nat} {a b : Nat} (h : Srt k π a b) (he : ∀ p, a ≤ p → p < b → π' p = π p) : Srt k π' a b := fun p q x1 x2 x3 => by
  rw [he p x1 (by omega), he q (by omega) x3]; exact h p q x1 x2 x3
theorem Ahd.congr {π' : Nat → Nat} {a m b : Nat} (h : Ahd π a m b) (he : ∀ p, a ≤ p → p < b → π' p = π p) : Ahd π' a m b := fun p q x1 x2 x3 x4 => by
  rw [he p x1 (by omega), he q (by omega) x4]; exact h p q x1 x2 x3 x4
/-- The halves put in order, the whole is. -/
theorem merge_glue {a d b : Nat} {s t : Nat → Nat} (h1 : Pm a d s) (h2 : Pm d b t) (hs : Srt k (fun p => π (s p)) a d) (ht : Srt k (fun p => π (s (t p))) d b)
    (hx : ∀ p q, a ≤ p → p < d → d ≤ q → q < b → lt3 k (π p) (π q)) : Srt k (fun p => π (s (t p))) a b := by
  refine Srt.glue (d := d) (hs.congr fun p x1 x2 => by simp only [h2.out (.inl x2)]) ht fun p q x1 x2 x3 x4 => ?_
  have m1 := h1.mem x1 x2
  have m2 := h2.mem x3 x4
  simp only [h2.out (.inl x2), h1.out (p := t q) (.inr m2.1)]
  exact hx _ _ m1.1 m1.2 m2.1 m2.2
/-- One element ahead of an ordered part is put into it. -/
theorem merge_one {a b i : Nat} (ht : Srt k π (a + 1) b) (ha : Ahd π a (a + 1) b) (h1 : a + 1 ≤ i) (h2 : i ≤ b) (hl : a + 1 < i → k (π (i - 1)) < k (π a)) (hg : i < b → ¬ k (π i) < k (π a)) :
    Srt k (fun p => π (rotP a (a + 1) i p)) a b := fun p q x1 x2 x3 => by
  have r1 : ∀ p, a ≤ p → p < i - 1 → rotP a (a + 1) i p = p + 1 := fun p y1 y2 => by rw [rot_1 y1 (by omega)]; omega
  have r2 : rotP a (a + 1) i (i - 1) = a := by rw [rot_2 (by omega) (by omega)]; omega
  have r3 : ∀ p, i ≤ p → rotP a (a + 1) i p = p := fun p hp => rot_0 (.inr hp) ⟨by omega, h1⟩
  show lt3 k (π (rotP a (a + 1) i p)) (π (rotP a (a + 1) i q))
  rcases Nat.lt_trichotomy p (i - 1) with c1 | c1 | c1
  · rw [r1 p x1 c1]
    rcases Nat.lt_trichotomy q (i - 1) with c2 | c2 | c2
    · rw [r1 q (by omega) c2]; exact ht _ _ (by omega) (by omega) (by omega)
    · rw [c2, r2]; exact lt3_le_l (ht.le (q := i - 1) (by omega) (by omega) (by omega)) (lt3_of (hl (by omega)))
    · rw [r3 q (by omega)]; exact ht _ _ (by omega) (by omega) (by omega)
  · rw [c1, r2, r3 q (by omega)]
    exact lt3_le_r (lt3_not (hg (by omega)) (ha _ _ (Nat.le_refl _) (by omega) (by omega) (by omega))) (ht.le (by omega) (by omega) (by omega))
  · rw [r3 p (by omega), r3 q (by omega)]; exact ht _ _ (by omega) (by omega) (by omega)
/-- One element behind an ordered part is put into it. -/
theorem merge_last {a m i : Nat} (hs : Srt k π a m) (ha : Ahd π a m (m + 1)) (h1 : a ≤ i) (h2 : i ≤ m) (hl : a < i → ¬ k (π m) < k (π (i - 1))) (hg : i < m → k (π m) < k (π i)) :
    Srt k (fun p => π (rotP i m (m + 1) p)) a (m + 1) := fun p q x1 x2 x3 => by
  have r0 : ∀ p, p < i → rotP i m (m + 1) p = p := fun p hp => rot_0 (.inl hp) ⟨h2, by omega⟩
  have r1 : rotP i m (m + 1) i = m := by rw [rot_1 (by omega) (by omega)]; omega
  have r2 : ∀ p, i < p → p < m + 1 → rotP i m (m + 1) p = p - 1 := fun p y1 y2 => by rw [rot_2 (by omega) y2]; omega
  show lt3 k (π (rotP i m (m + 1) p)) (π (rotP i m (m + 1) q))
  rcases Nat.lt_trichotomy p i with c1 | c1 | c1
  · rw [r0 p c1]
    rcases Nat.lt_trichotomy q i with c2 | c2 | c2
    · rw [r0 q c2]; exact hs _ _ (by omega) (by omega) (by omega)
    · rw [c2, r1]; exact lt3_le_l (hs.le (q := i - 1) (by omega) (by omega) (by omega)) (lt3_not (hl (by omega)) (ha _ _ (by omega) (by omega) (by omega) (by omega)))
    · rw [r2 q c2 x3]; exact hs _ _ (by omega) (by omega) (by omega)
  · rw [c1, r1, r2 q (by omega) x3]
    exact lt3_le_r (lt3_of (hg (by omega))) (hs.le (by omega) (by omega) (by omega))
  · rw [r2 p c1 (by omega), r2 q (by omega) x3]; exact hs _ _ (by omega) (by omega) (by omega)
/-- In order but for what ends at j. -/
def Ins (k π : Nat → Nat) (a i j : Nat) : Prop := ∀ p q, a ≤ p → p < q → q ≤ i → q ≠ j → lt3 k (π p) (π q)
theorem ins_start {a i : Nat} (h : Srt k π a i) : Ins k π a i i := fun p q x1 x2 x3 x4 => h p q x1 x2 (by omega)
theorem ins_swap {a i j : Nat} (h : Ins k π a i (j + 1)) (hj : a ≤ j) (hi : j + 1 ≤ i) (hk : k (π (j + 1)) < k (π j)) : Ins k (fun p => π (swP (j + 1) j p)) a i j := fun p q x1 x2 x3 x4 => by
  have e0 : ∀ p, p ≠ j + 1 → p ≠ j → swP (j + 1) j p = p := fun p h1 h2 => by unfold swP; rw [if_neg h1, if_neg h2]
  have e1 : swP (j + 1) j (j + 1) = j := by unfold swP; rw [if_pos rfl]
  have e2 : swP (j + 1) j j = j + 1 := by unfold swP; rw [if_neg (by omega), if_pos rfl]
  show lt3 k (π (swP (j + 1) j p)) (π (swP (j + 1) j q))
  by_cases c1 : q = j + 1
  · rw [c1, e1]
    by_cases c2 : p = j
    · rw [c2, e2]; exact lt3_of hk
    · rw [e0 p (by omega) c2]; exact h _ _ x1 (by omega) (by omega) (by omega)
  · rw [e0 q c1 x4]
    by_cases c2 : p = j
    · rw [c2, e2]; exact h _ _ (by omega) (by omega) x3 c1
    · by_cases c3 : p = j + 1
      · rw [c3, e1]; exact h _ _ hj (by omega) x3 c1
      · rw [e0 p c3 c2]; exact h _ _ x1 x2 x3 c1
theorem ins_stop {a i j : Nat} (h : Ins k π a i j) (hj : j ≤ i) (hk : a < j → lt3 k (π (j - 1)) (π j)) : Srt k π a (i + 1) := fun p q x1 x2 x3 => by
  by_cases c : q = j
  · subst c
    rcases Nat.eq_or_lt_of_le (show p ≤ q - 1 by omega) with e | e
    · rw [e]; exact hk (by omega)
    · exact lt3_trans (h p (q - 1) x1 e (by omega) (by omega)) (hk (by omega))
  · exact h p q x1 x2 (by omega) c
/-- Two changes of places that put in order are one. -/
theorem srt_only {n : Nat} {s t : Nat → Nat} (h1 : Pm 0 n s) (h2 : Pm 0 n t) (hs : Srt k s 0 n) (ht : Srt k t 0 n) : ∀ p, p < n → s p = t p := by
  have st : ∀ (s t : Nat → Nat), Pm 0 n s → Pm 0 n t → Srt k s 0 n → Srt k t 0 n → ∀ p, p < n → (∀ q, q < p → s q = t q) → s p = t p ∨ lt3 k (t p) (s p) := fun s t h1 h2 hs ht p hp ih => by
    obtain ⟨t', b1, b2, b3⟩ := id h2
    have hm := h1.mem (Nat.zero_le p) hp
    have hq : t' (s p) < n := by
      rcases Nat.lt_or_ge (t' (s p)) n with h | h
      · exact h
      · have := h2.out (.inr h); rw [b1] at this; omega
    rcases Nat.lt_trichotomy (t' (s p)) p with c | c | c
    · have := ih _ c; rw [b1] at this; have := h1.inj this; omega
    · left; have := b1 (s p); rw [c] at this; exact this.symm
    · right; have := ht p _ (Nat.zero_le _) c hq; rwa [b1] at this
  intro p
  induction p using Nat.strongRecOn with
  | ind p ih =>
    intro hp
    have e1 := st s t h1 h2 hs ht p hp fun q hq => ih q hq (by omega)
    have e2 := st t s h2 h1 ht hs p hp fun q hq => (ih q hq (by omega)).symm
    rcases e1 with e | e
    · exact e
    · rcases e2 with g | g
      · exact g.symm
      · exact absurd (lt3_asymm e g) id
end
end Go.Pst
