/- The library's stable sort of a row of floats by their sizes. Condition: lists of at most 65536. -/
import Derived.Test.YtjakjnmfndfehaaSk
namespace Go.Pst
set_option linter.unusedVariables false
section
variable {k σ : Nat → Nat} {S n t a : Nat}
/-- Blocks of S, each in order. -/
structure Blk (k σ : Nat → Nat) (S n : Nat) : Prop where
  pm : Pm 0 n σ
  srt : ∀ p q, p < q → q < n → p / S = q / S → lt3 k (σ p) (σ q)
  own : ∀ p, p < n → σ p / S = p / S
/-- The first t blocks of 2 S in order, the others in blocks of S. -/
structure Mix (k σ : Nat → Nat) (S n t : Nat) : Prop where
  pm : Pm 0 n σ
  srt : ∀ p q, p < q → q < n → p / S / 2 = q / S / 2 → q / S / 2 < t → lt3 k (σ p) (σ q)
  srt' : ∀ p q, p < q → q < n → p / S = q / S → t ≤ q / S / 2 → lt3 k (σ p) (σ q)
  own : ∀ p, p < n → p / S / 2 < t → σ p / S / 2 = p / S / 2
  own' : ∀ p, p < n → t ≤ p / S / 2 → σ p / S = p / S
theorem Blk.mix (h : Blk k σ S n) : Mix k σ S n 0 where
  pm := h.pm
  srt p q _ _ _ h4 := absurd h4 (Nat.not_lt_zero _)
  srt' p q h1 h2 h3 _ := h.srt p q h1 h2 h3
  own p _ h2 := absurd h2 (Nat.not_lt_zero _)
  own' p h1 _ := h.own p h1
theorem Blk.all (h : Blk k σ S n) (hn : n ≤ S) : Srt k σ 0 n := fun p q _ h1 h2 => h.srt p q h1 h2 (by rw [Nat.div_eq_of_lt (by omega), Nat.div_eq_of_lt (by omega)])
theorem div3 (hS : 0 < S) (ha : a = t * (2 * S)) (p : Nat) : (2 * t ≤ p / S ↔ a ≤ p) ∧ (2 * t + 1 ≤ p / S ↔ a + S ≤ p) ∧ (2 * t + 2 ≤ p / S ↔ a + 2 * S ≤ p) := by
  have e0 : 2 * t * S = a := by rw [ha, Nat.mul_comm 2 t, Nat.mul_assoc]
  have e1 : (2 * t + 1) * S = a + S := by rw [Nat.add_mul, e0, Nat.one_mul]
  have e2 : (2 * t + 2) * S = a + 2 * S := by rw [Nat.add_mul, e0]
  rw [Nat.le_div_iff_mul_le hS, Nat.le_div_iff_mul_le hS, Nat.le_div_iff_mul_le hS, e0, e1, e2]
  exact ⟨Iff.rfl, Iff.rfl, Iff.rfl⟩
theorem Mix.done (h : Mix k σ S n t) (hS : 0 < S) (ha : a = t * (2 * S)) (hn : n ≤ a) : Blk k σ (2 * S) n := by
  have hd : ∀ p : Nat, p / (2 * S) = p / S / 2 := fun p => by rw [Nat.div_div_eq_div_mul, Nat.mul_comm]
  refine ⟨h.pm, fun p q h1 h2 h3 => ?_, fun p h1 => ?_⟩
  · rw [hd, hd] at h3
    have := div3 hS ha q
    exact h.srt p q h1 h2 h3 (by omega)
  · rw [hd, hd]
    have := div3 hS ha p
    exact h.own p h1 (by omega)
theorem Mix.pre (h : Mix k σ S n t) (hS : 0 < S) (ha : a = t * (2 * S)) {b : Nat} (hb : b ≤ n) (hb2 : b ≤ a + 2 * S) (hm : a + S ≤ b) : Srt k σ a (a + S) ∧ Srt k σ (a + S) b ∧ Ahd σ a (a + S) b := by
  refine ⟨fun p q h1 h2 h3 => ?_, fun p q h1 h2 h3 => ?_, fun p q h1 h2 h3 h4 => ?_⟩
  · have d1 := div3 hS ha p; have d2 := div3 hS ha q
    exact h.srt' p q h2 (by omega) (by omega) (by omega)
  · have d1 := div3 hS ha p; have d2 := div3 hS ha q
    exact h.srt' p q h2 (by omega) (by omega) (by omega)
  · have d1 := div3 hS ha p; have d2 := div3 hS ha q
    have e1 := h.own' p (by omega) (by omega)
    have e2 := h.own' q (by omega) (by omega)
    have d3 := div3 hS ha (σ p); have d4 := div3 hS ha (σ q)
    omega
theorem Mix.next (h : Mix k σ S n t) (hS : 0 < S) (ha : a = t * (2 * S)) {b : Nat} (hb : b ≤ n) (hb2 : b = a + 2 * S ∨ b = n ∧ n ≤ a + 2 * S) {s : Nat → Nat} (hs : Pm a b s) (hr : Srt k (fun p => σ (s p)) a b) : Mix k (fun p => σ (s p)) S n (t + 1) := by
  have out : ∀ p, p < n → p / S / 2 ≠ t → s p = p := fun p h1 h2 => by
    have d1 := div3 hS ha p
    exact hs.out (by omega)
  have inn : ∀ p, p < n → p / S / 2 = t → a ≤ p ∧ p < b := fun p h1 h2 => by
    have d1 := div3 hS ha p
    omega
  have mem : ∀ p, p < n → p / S / 2 = t → s p / S / 2 = t ∧ s p < n := fun p h1 h2 => by
    obtain ⟨x1, x2⟩ := inn p h1 h2
    have := hs.mem x1 x2
    have d1 := div3 hS ha (s p)
    omega
  refine ⟨h.pm.comp (hs.wide (Nat.zero_le _) hb), fun p q h1 h2 h3 h4 => ?_, fun p q h1 h2 h3 h4 => ?_, fun p h1 h2 => ?_, fun p h1 h2 => ?_⟩
  · by_cases e : q / S / 2 = t
    · have x1 := inn p (by omega) (by omega); have x2 := inn q h2 e
      exact hr p q x1.1 h1 x2.2
    · simp only [out q h2 e, out p (by omega) (by omega)]
      exact h.srt p q h1 h2 h3 (by omega)
  · simp only [out q h2 (by omega), out p (by omega) (by omega)]
    exact h.srt' p q h1 h2 h3 (by omega)
  · by_cases e : p / S / 2 = t
    · obtain ⟨x1, x2⟩ := mem p h1 e
      have := h.own' (s p) x2 (by omega)
      show σ (s p) / S / 2 = p / S / 2
      rw [this]; omega
    · simp only [out p h1 e]; exact h.own p h1 (by omega)
  · simp only [out p h1 (by omega)]; exact h.own' p h1 (by omega)
theorem Mix.rest (h : Mix k σ S n t) (hS : 0 < S) (ha : a = t * (2 * S)) (hn : n ≤ a + S) : Mix k σ S n (t + 1) := by
  refine ⟨h.pm, fun p q h1 h2 h3 h4 => ?_, fun p q h1 h2 h3 h4 => h.srt' p q h1 h2 h3 (by omega), fun p h1 h2 => ?_, fun p h1 h2 => h.own' p h1 (by omega)⟩
  · by_cases e : q / S / 2 = t
    · have d1 := div3 hS ha p; have d2 := div3 hS ha q
      exact h.srt' p q h1 h2 (by omega) (by omega)
    · exact h.srt p q h1 h2 h3 (by omega)
  · by_cases e : p / S / 2 = t
    · rw [h.own' p h1 (by omega)]
    · exact h.own p h1 (by omega)
/-- The first t blocks of 20 in order, nothing else has turned. -/
structure Ini (k σ : Nat → Nat) (n t : Nat) : Prop where
  pm : Pm 0 n σ
  srt : ∀ p q, p < q → q < n → p / 20 = q / 20 → q / 20 < t → lt3 k (σ p) (σ q)
  own : ∀ p, p < n → p / 20 < t → σ p / 20 = p / 20
  rest : ∀ p, t ≤ p / 20 → σ p = p
theorem ini_start : Ini k (fun p => p) n 0 := ⟨Pm.same _ _, fun p q _ _ _ h => by omega, fun p _ h => by omega, fun p _ => rfl⟩
theorem Ini.next (h : Ini k σ n t) {b : Nat} (hb : b ≤ n) (hb2 : b = 20 * t + 20 ∨ b = n ∧ n ≤ 20 * t + 20) {s : Nat → Nat} (hs : Pm (20 * t) b s) (hr : Srt k (fun p => σ (s p)) (20 * t) b) : Ini k (fun p => σ (s p)) n (t + 1) := by
  by_cases hab : 20 * t ≤ b
  · refine ⟨h.pm.comp (hs.wide (Nat.zero_le _) hb), fun p q h1 h2 h3 h4 => ?_, fun p h1 h2 => ?_, fun p h1 => ?_⟩
    · by_cases e : q / 20 = t
      · exact hr p q (by omega) h1 (by omega)
      · simp only [hs.out (p := q) (by omega), hs.out (p := p) (by omega)]
        exact h.srt p q h1 h2 h3 (by omega)
    · by_cases e : p / 20 = t
      · have := hs.mem (p := p) (by omega) (by omega)
        show σ (s p) / 20 = p / 20
        rw [h.rest (s p) (by omega)]; omega
      · simp only [hs.out (p := p) (by omega)]; exact h.own p h1 (by omega)
    · simp only [hs.out (p := p) (by omega)]; exact h.rest p (by omega)
  · refine ⟨h.pm.comp (hs.wide (Nat.zero_le _) hb), fun p q h1 h2 h3 h4 => ?_, fun p h1 h2 => ?_, fun p h1 => ?_⟩
    · simp only [hs.out (p := q) (by omega), hs.out (p := p) (by omega)]
      exact h.srt p q h1 h2 h3 (by omega)
    · simp only [hs.out (p := p) (by omega)]; exact h.own p h1 (by omega)
    · simp only [hs.out (p := p) (by omega)]; exact h.rest p (by omega)
theorem Ini.blk (h : Ini k σ n t) (hn : n ≤ 20 * t) : Blk k σ 20 n := ⟨h.pm, fun p q h1 h2 h3 => h.srt p q h1 h2 h3 (by omega), fun p h1 => h.own p h1 (by omega)⟩
end
end Go.Pst
namespace Go.Proofs.Ytjakjnmfndfehaa
open Go.RowKit Go.Pst
set_option maxRecDepth 20000
set_option linter.unusedSimpArgs false
set_option linter.unusedVariables false
theorem symmerge_any (w0 : World) (B g n c M : Nat) (y : Nat → Nat) (E : Nat → Value) (hB : B ≤ g) (hw0 : B ≤ w0.heap.size) (hM : n ≤ M) (hn : n ≤ 65536) (hy : ∀ i, y i < 2 ^ 64) : ∀ (s a m b : Nat) (π : Nat → Nat) (w : World), b - a ≤ s → a < m → m < b → b ≤ n → Below B w0 w → FR w g M n y π E →
    Srt (fun i => ky (y i)) π a m → Srt (fun i => ky (y i)) π m b → Ahd π a m b →
    Calls Try.prog 118 #[.slice (some ⟨g, 0, none⟩) n c, .int .i64 (a : Int), .int .i64 (m : Int), .int .i64 (b : Int), .func (.func 72) #[] #[]] w (SortPost w0 B g n M a b y π E) := by
  intro s
  induction s with
  | zero => intro a m b π w h1 h2 h3; omega
  | succ s ih =>
    intro a m b π w h1 h2 h3 h4 hb hr hs ht ha
    by_cases e1 : m = a + 1
    · subst e1
      exact merge1_any w0 B g n c M a b y π E w hB hb hw0 hr hM hn hy h3 h4 ht ha
    · by_cases e2 : b = m + 1
      · subst e2
        exact merge2_any w0 B g n c M a m y π E w hB hb hw0 hr hM hn hy (by omega) h4 hs ha
      · exact merge3_any w0 B g n c M a m b y π E w hB hb hw0 hr hM hn hy (by omega) (by omega) h4 hs ht ha
          fun a' m' b' π' w' x1 x2 x3 x4 hb' hr' hs' ht' ha' => ih a' m' b' π' w' (by omega) x2 x3 x4 hb' hr' hs' ht' ha'
set_option maxHeartbeats 4000000 in
theorem stable_any (w0 : World) (B g n c M : Nat) (y : Nat → Nat) (E : Nat → Value) (w : World) (hB : B ≤ g) (hb : Below B w0 w) (hw0 : B ≤ w0.heap.size) (hr : FR w g M n y (fun p => p) E) (hM : n ≤ M) (hn : n ≤ 65536) (hy : ∀ i, y i < 2 ^ 64) :
    Calls Try.prog 103 #[.slice (some ⟨g, 0, none⟩) n c, .int .i64 (n : Int), .func (.func 72) #[] #[]] w
      fun en w' => (∃ v, en = .returned v) ∧ Below B w0 w' ∧ ∃ s, Pm 0 n s ∧ FR w' g M n y s E ∧ Srt (fun i => ky (y i)) s 0 n := by
  have HBW := Lib.hid hb; have HR := Lib.hid hr; have HY := Lib.hid hy
  clear hb hr hy
  go_enter Try.func103, Try.ntmps103
  go_wp2_with fail
  go_loopw [7, 8] (fun s r wr => ∃ (t a : Nat) (σ : Nat → Nat), s = .int .i64 (a : Int) ∧ r = .int .i64 ((a : Int) + 20) ∧ Hid (a = 20 * t) ∧ a ≤ n ∧ Below B w0 wr ∧ FR wr g M n y σ E ∧ Hid (Ini (fun i => ky (y i)) σ n t)) (fun s _ _ => n + 20 - (intOf s).toNat)
  case atStart => exact ⟨0, 0, fun p => p, rfl, rfl, Lib.hid rfl, by omega, HBW.out, HR.out, Lib.hid ini_start⟩
  case round =>
    clear HBW HR
    obtain ⟨t, a, σ, rfl, rfl, HA, han, hbw, hrow, HI⟩ := hrel
    have BW := Lib.hid hbw; have RW := Lib.hid hrow
    clear hbw hrow
    have hid : Hid (∀ b, ∀ p q, a ≤ p → p < q → q < b → σ p < σ q) := Lib.hid (fun b p q h1 h2 h3 => by
      have e := HA.out
      rw [HI.out.rest p (by omega), HI.out.rest q (by omega)]; exact h2)
    by_cases hbn : a + 20 ≤ n
    · have k1 : (a : Int) + 20 ≤ (n : Int) := by omega
      go_wp2_with fail
      refine (insertion_any w0 B g n c M a (a + 20) y σ E _ hB BW.out hw0 RW.out hM hn HY.out (by omega) hbn (hid.out _)).mono ?_
      rintro en w2 ⟨⟨v, rfl⟩, hb2, s, hp2, hr2, hs2⟩
      have NX := Lib.hid (HI.out.next (b := a + 20) hbn (.inl (by rw [HA.out])) (by rw [← HA.out]; exact hp2) (by rw [← HA.out]; exact hs2))
      have B2 := Lib.hid hb2; have R2 := Lib.hid hr2
      have HA2 : Hid (a + 20 = 20 * (t + 1)) := Lib.hid (by rw [HA.out]; omega)
      clear hb2 hr2 hp2 hs2
      go_wp2_with fail
      go_roundw
      case rel => exact ⟨t + 1, a + 20, _, by go_num, by go_num, HA2, by omega, B2.out, R2.out, NX⟩
      case measure => (simp [intOf] <;> omega)
    · have k1 : ¬ (a : Int) + 20 ≤ (n : Int) := by omega
      go_wp2_with fail
      refine (insertion_any w0 B g n c M a n y σ E _ hB BW.out hw0 RW.out hM hn HY.out han (Nat.le_refl _) (hid.out _)).mono ?_
      rintro en w2 ⟨⟨v, rfl⟩, hb2, s, hp2, hr2, hs2⟩
      have NX := HI.out.next (b := n) (Nat.le_refl _) (.inr ⟨rfl, by have := HA.out; omega⟩) (by rw [← HA.out]; exact hp2) (by rw [← HA.out]; exact hs2)
      have NB := Lib.hid (NX.blk (by have := HA.out; omega))
      have B2 := Lib.hid hb2; have R2 := Lib.hid hr2
      clear hb2 hr2 hp2 hs2 NX HI hid HA BW RW
      generalize (fun p => σ (s p)) = σ0 at *
      clear s σ k1 hbn
      obtain ⟨aa, haa⟩ : ∃ aa, aa = a := ⟨_, rfl⟩
      clear haa
      go_wp2_with fail
      go_loopw [6] (fun r wr => ∃ (S : Nat) (σ : Nat → Nat), r = .int .i64 (S : Int) ∧ 0 < S ∧ S ≤ 131072 ∧ Below B w0 wr ∧ FR wr g M n y σ E ∧ Hid (Blk (fun i => ky (y i)) σ S n)) (fun r _ => 131072 - (intOf r).toNat)
      case atStart => exact ⟨20, σ0, rfl, by omega, by omega, B2.out, R2.out, NB⟩
      case round =>
        clear B2 R2 NB
        obtain ⟨S, σ, rfl, hS, hSl, hbw, hrow, HI⟩ := hrel
        have BW := Lib.hid hbw; have RW := Lib.hid hrow
        clear hbw hrow
        by_cases hSn : S < n
        · have k1 : (S : Int) < (n : Int) := by omega
          go_wp2_with fail
          go_loopw [7, 8] (fun s r wr => ∃ (t a : Nat) (σ : Nat → Nat), s = .int .i64 (a : Int) ∧ r = .int .i64 ((a : Int) + 2 * (S : Int)) ∧ Hid (a = t * (2 * S)) ∧ a ≤ n ∧ Below B w0 wr ∧ FR wr g M n y σ E ∧ Hid (Mix (fun i => ky (y i)) σ S n t)) (fun s _ _ => n - (intOf s).toNat)
          case atStart => exact ⟨0, 0, σ, rfl, congrArg (Value.int .i64) (by omega), Lib.hid (by omega), by omega, BW.out, RW.out, Lib.hid HI.out.mix⟩
          case round =>
            clear BW RW HI
            obtain ⟨t, a, σ, rfl, rfl, HA, han, hbw, hrow, HI⟩ := hrel
            have BW := Lib.hid hbw; have RW := Lib.hid hrow
            clear hbw hrow
            by_cases hbn : a + 2 * S ≤ n
            · have k2 : (a : Int) + 2 * (S : Int) ≤ (n : Int) := by omega
              obtain ⟨m, hm⟩ : ∃ m, m = a + S := ⟨_, rfl⟩
              have em : (a : Int) + (S : Int) = (m : Int) := by omega
              obtain ⟨b, hb⟩ : ∃ b, b = a + 2 * S := ⟨_, rfl⟩
              have eb : (a : Int) + 2 * (S : Int) = (b : Int) := by omega
              have HMB := Lib.hid (And.intro hm hb)
              obtain ⟨p1, p2, p3⟩ := HI.out.pre hS HA.out (b := b) (by omega) (by omega) (by omega)
              rw [← hm] at p1 p2 p3
              have amb : a < m ∧ m < b ∧ b ≤ n := by omega
              obtain ⟨a1, a2, a3⟩ := amb
              have P1 := Lib.hid p1; have P2 := Lib.hid p2; have P3 := Lib.hid p3
              clear p1 p2 p3 hm hb
              rw [eb] at k2 ⊢
              go_wp2_with fail
              refine (symmerge_any w0 B g n c M y E hB hw0 hM hn HY.out _ a m b σ _ (Nat.le_refl _) a1 a2 a3 BW.out RW.out P1.out P2.out P3.out).mono ?_
              rintro en w2 ⟨⟨v, rfl⟩, hb2, s, hp2, hr2, hs2⟩
              have NX := Lib.hid (HI.out.next hS HA.out (b := b) a3 (.inl HMB.out.2) hp2 hs2)
              have B2 := Lib.hid hb2; have R2 := Lib.hid hr2
              have HA2 : Hid (b = (t + 1) * (2 * S)) := Lib.hid (by rw [HMB.out.2, HA.out, Nat.add_mul, Nat.one_mul])
              clear hb2 hr2 hp2 hs2 P1 P2 P3
              go_wp2_with fail
              go_roundw
              case rel => exact ⟨t + 1, b, _, rfl, by go_num, HA2, a3, B2.out, R2.out, NX⟩
              case measure => (simp [intOf] <;> omega)
            · have k2 : ¬ (a : Int) + 2 * (S : Int) ≤ (n : Int) := by omega
              obtain ⟨m, hm⟩ : ∃ m, m = a + S := ⟨_, rfl⟩
              have em : (a : Int) + (S : Int) = (m : Int) := by omega
              have HM0 := Lib.hid hm
              clear hm
              go_upto_if 54 with fail
              go_cut [6] (fun r wx => r = .int .i64 (S : Int) ∧ Below B w0 wx ∧ ∃ σ, FR wx g M n y σ E ∧ Hid (Blk (fun i => ky (y i)) σ (2 * S) n))
              case first =>
                by_cases hmn : m < n
                · have k3 : (m : Int) < (n : Int) := by omega
                  have hm := HM0.out
                  obtain ⟨p1, p2, p3⟩ := HI.out.pre hS HA.out (b := n) (Nat.le_refl _) (by omega) (by omega)
                  rw [← hm] at p1 p2 p3
                  have am : a < m := by omega
                  have P1 := Lib.hid p1; have P2 := Lib.hid p2; have P3 := Lib.hid p3
                  clear p1 p2 p3 hm
                  go_wp2_with fail
                  refine (symmerge_any w0 B g n c M y E hB hw0 hM hn HY.out _ a m n σ _ (Nat.le_refl _) am hmn (Nat.le_refl _) BW.out RW.out P1.out P2.out P3.out).mono ?_
                  rintro en w2 ⟨⟨v, rfl⟩, hb2, s, hp2, hr2, hs2⟩
                  have hm := HM0.out
                  have NX := HI.out.next hS HA.out (b := n) (Nat.le_refl _) (.inr ⟨rfl, by omega⟩) hp2 hs2
                  have NB := Lib.hid (NX.done hS (a := a + 2 * S) (by rw [HA.out, Nat.add_mul, Nat.one_mul]) (by omega))
                  have B2 := Lib.hid hb2; have R2 := Lib.hid hr2
                  clear hb2 hr2 hp2 hs2 P1 P2 P3 NX hm
                  go_wp2_with fail
                  go_meet
                  case rel => exact ⟨rfl, B2.out, _, R2.out, NB⟩
                · have k3 : ¬ (m : Int) < (n : Int) := by omega
                  have hm := HM0.out
                  have NB := Lib.hid ((HI.out.rest hS HA.out (by omega)).done hS (a := a + 2 * S) (by rw [HA.out, Nat.add_mul, Nat.one_mul]) (by omega))
                  clear hm
                  go_wp2_with fail
                  go_meet
                  case rel => exact ⟨rfl, BW.out, σ, RW.out, NB⟩
              case rest =>
                clear BW RW HI HM0 HA
                obtain ⟨rfl, hbw, σ, hrow, HI⟩ := hcut
                have BW := Lib.hid hbw; have RW := Lib.hid hrow
                clear hbw hrow
                go_wp2_with fail
                go_roundw
                case rel => exact ⟨2 * S, σ, by go_num, by omega, by omega, BW.out, RW.out, HI⟩
                case measure => (simp [intOf] <;> omega)
        · have k1 : ¬ (S : Int) < (n : Int) := by omega
          go_wp2_with fail
          go_end0
          exact ⟨⟨_, rfl⟩, BW.out, σ, HI.out.pm, RW.out, HI.out.all (by omega)⟩
theorem sortstable_any (w0 : World) (B g n c M : Nat) (y : Nat → Nat) (E : Nat → Value) (w : World) (hB : B ≤ g) (hb : Below B w0 w) (hw0 : B ≤ w0.heap.size) (hr : FR w g M n y (fun p => p) E) (hM : n ≤ M) (hn : n ≤ 65536) (hy : ∀ i, y i < 2 ^ 64) :
    Calls Try.prog 71 #[.slice (some ⟨g, 0, none⟩) n c, .func (.func 72) #[] #[]] w
      fun en w' => (∃ v, en = .returned v) ∧ Below B w0 w' ∧ ∃ s, Pm 0 n s ∧ FR w' g M n y s E ∧ Srt (fun i => ky (y i)) s 0 n := by
  have HS := Lib.hid (stable_any w0 B g n c M y E w hB hb hw0 hr hM hn hy)
  clear hb hr hy
  go_enter Try.func71, Try.ntmps71
  go_wp2_with fail
  refine HS.out.mono ?_
  rintro en w2 ⟨⟨v, rfl⟩, hb2, s, hp2, hr2, hs2⟩
  have B2 := Lib.hid hb2; have R2 := Lib.hid hr2; have P2 := Lib.hid hp2; have S2 := Lib.hid hs2
  clear hb2 hr2 hp2 hs2
  go_wp2_with fail
  go_end0
  exact ⟨⟨_, rfl⟩, B2.out, s, P2.out, R2.out, S2.out⟩
end Go.Proofs.Ytjakjnmfndfehaa
