/- The library's changes of places in a row of floats: swapRange, rotate. Condition: lists of at most 65536. -/
import Derived.Test.YtjakjnmfndfehaaSo
import Derived.Test.YtjakjnmfndfehaaDe
import Derived.BigRegion
import Derived.Deep.OwnRows
namespace Go.Proofs.Ytjakjnmfndfehaa
open Go.RowKit Go.Pst
set_option maxRecDepth 20000
set_option linter.unusedSimpArgs false
set_option linter.unusedVariables false
/-- A row of n floats: cell q holds what stood at π q at first. -/
def FR (w : World) (g M n : Nat) (y π : Nat → Nat) (E : Nat → Value) : Prop := w.rowIs g 24 M (fun q => if q < n then .float .f64 (y (π q)) else E q)
theorem FR.cell {w : World} {g M n : Nat} {y π : Nat → Nat} {E : Nat → Value} (h : FR w g M n y π E) (hM : n ≤ M) {q : Nat} (hq : q < n) : w.cell? ⟨g, q, none⟩ = some (.float .f64 (y (π q))) := by
  have := World.rowIs.cell h (show q < M by omega)
  rwa [if_pos hq] at this
theorem FR.frozen {w : World} {g M n : Nat} {y π : Nat → Nat} {E : Nat → Value} (h : FR w g M n y π E) (q : Nat) : w.frozen? ⟨g, q, none⟩ = false := World.rowIs.frozen h q
theorem FR.congr {w : World} {g M n : Nat} {y π π' : Nat → Nat} {E : Nat → Value} (h : FR w g M n y π E) (he : ∀ p, p < n → π p = π' p) : FR w g M n y π' E := World.rowIs.congr h fun q hq => by
  by_cases e : q < n
  · rw [if_pos e, if_pos e, he q e]
  · rw [if_neg e, if_neg e]
theorem FR.swap {w : World} {g M n : Nat} {y π : Nat → Nat} {E : Nat → Value} (h : FR w g M n y π E) {i j : Nat} (hi : i < n) (hj : j < n) : FR ((w.setCell ⟨g, i, none⟩ (.float .f64 (y (π j)))).setCell ⟨g, j, none⟩ (.float .f64 (y (π i)))) g M n y (fun p => π (swP i j p)) E :=
  World.rowIs.congr (World.rowIs.set (World.rowIs.set h i (.float .f64 (y (π j)))) j (.float .f64 (y (π i)))) fun q hq => by
    show (if q = j then Value.float .f64 (y (π i)) else if q = i then Value.float .f64 (y (π j)) else if q < n then Value.float .f64 (y (π q)) else E q) = if q < n then Value.float .f64 (y (π (swP i j q))) else E q
    unfold swP
    by_cases e1 : q = j
    · rw [if_pos e1, if_pos (by omega)]
      by_cases e2 : q = i
      · rw [if_pos e2, show i = j by omega]
      · rw [if_neg e2, if_pos e1]
    · rw [if_neg e1]
      by_cases e2 : q = i
      · rw [if_pos e2, if_pos (by omega), if_pos e2]
      · rw [if_neg e2, if_neg e2, if_neg e1]
theorem FR.below {w w' : World} {g M n C : Nat} {y π : Nat → Nat} {E : Nat → Value} (h : FR w g M n y π E) (hb : Below C w w') (hC : g < C) : FR w' g M n y π E := World.rowIs.of_block h (hb.block g hC)
theorem FR.lt {w : World} {g M n : Nat} {y π : Nat → Nat} {E : Nat → Value} (h : FR w g M n y π E) : g < w.heap.size := World.rowIs.lt h
set_option maxHeartbeats 1000000 in
theorem swapRange_any (w0 : World) (B g n c M a b k : Nat) (y π : Nat → Nat) (E : Nat → Value) (F : Value) (w : World) (hB : B ≤ g) (hb : Below B w0 w) (hr : FR w g M n y π E) (hM : n ≤ M) (hn : n ≤ 65536) (h1 : a + k ≤ b) (h2 : b + k ≤ n) :
    Calls Try.prog 138 #[.slice (some ⟨g, 0, none⟩) n c, .int .i64 (a : Int), .int .i64 (b : Int), .int .i64 (k : Int), F] w
      fun en w' => (∃ v, en = .returned v) ∧ Below B w0 w' ∧ FR w' g M n y (fun p => π (swR a b k p)) E := by
  have HB := Lib.hid hb; have HR := Lib.hid hr
  clear hb hr
  go_enter Try.func138, Try.ntmps138
  go_wp2_with fail
  go_loopw [10] (fun s wr => ∃ i : Nat, s = .int .i64 (i : Int) ∧ i ≤ k ∧ Below B w0 wr ∧ FR wr g M n y (fun p => π (swR a b i p)) E) (fun s _ => k - (intOf s).toNat)
  case atStart => exact ⟨0, rfl, by omega, HB.out, by rw [swR_zero]; exact HR.out⟩
  case round =>
    clear HB HR
    obtain ⟨i, rfl, hi, hbw, hrow⟩ := hrel
    have BW := Lib.hid hbw; have RW := Lib.hid hrow
    have hlt := hrow.lt
    clear hbw
    by_cases hik : i < k
    · have k1 : (i : Int) < (k : Int) := by omega
      obtain ⟨p, hp⟩ : ∃ p, p = a + i := ⟨_, rfl⟩
      obtain ⟨q, hq⟩ : ∃ q, q = b + i := ⟨_, rfl⟩
      have ep : (a : Int) + (i : Int) = (p : Int) := by omega
      have eq' : (b : Int) + (i : Int) = (q : Int) := by omega
      have g1 : (0 : Int) ≤ (p : Int) ∧ (p : Int) < (n : Int) ∧ (0 : Int) ≤ (q : Int) ∧ (q : Int) < (n : Int) := by omega
      obtain ⟨g1, g2, g3, g4⟩ := g1
      have hpn : p < n := by omega
      have hqn : q < n := by omega
      have c1 := hrow.cell hM hpn
      have c2 := hrow.cell hM hqn
      have f1 := hrow.frozen p
      have f2 := hrow.frozen q
      have S1 := Lib.hid (fun w' (h : FR w' g M n y (fun p => π (swR a b i p)) E) => h.swap (i := p) (j := q) hpn hqn)
      have NX : Hid (∀ r, swR a b i (swP p q r) = swR a b (i + 1) r) := Lib.hid (fun r => by rw [hp, hq]; exact swR_succ (by omega) r)
      generalize y (π (swR a b i p)) = u at *
      generalize y (π (swR a b i q)) = v at *
      clear hp hq hrow
      go_wp2_with fail
      go_region
      have R2 : Hid (FR (((wr.setCell ⟨g, p, none⟩ (.float .f64 v)).setCell ⟨g, q, none⟩ (.float .f64 u)).drew) g M n y (fun p => π (swR a b (i + 1) p)) E) := Lib.hid ((S1.out wr RW.out).congr fun r _ => by simp only [NX.out])
      have B2 := Lib.hid (((BW.out.setCell (p := ⟨g, p, none⟩) hB (.float .f64 v)).setCell (p := ⟨g, q, none⟩) hB (.float .f64 u)).drew)
      clear c1 c2 f1 f2
      go_wp2_with fail
      go_roundw
      case rel => exact ⟨i + 1, by go_num, by omega, B2.out, R2.out⟩
      case measure => (simp [intOf] <;> omega)
    · obtain rfl : i = k := by omega
      have k1 : ¬ (i : Int) < (i : Int) := by omega
      go_wp2_with fail
      go_end0
      exact ⟨⟨_, rfl⟩, BW.out, RW.out⟩
set_option maxHeartbeats 1000000 in
theorem rotate_any (w0 : World) (B g n c M a m b : Nat) (y π : Nat → Nat) (E : Nat → Value) (F : Value) (w : World) (hB : B ≤ g) (hb : Below B w0 w) (hr : FR w g M n y π E) (hM : n ≤ M) (hn : n ≤ 65536) (h1 : a < m) (h2 : m < b) (h3 : b ≤ n) :
    Calls Try.prog 131 #[.slice (some ⟨g, 0, none⟩) n c, .int .i64 (a : Int), .int .i64 (m : Int), .int .i64 (b : Int), F] w
      fun en w' => (∃ v, en = .returned v) ∧ Below B w0 w' ∧ FR w' g M n y (fun p => π (rotP a m b p)) E := by
  have HB := Lib.hid hb; have HR := Lib.hid hr
  clear hb hr
  go_enter Try.func131, Try.ntmps131
  go_wp2_with fail
  go_loopw [10, 11] (fun s t wr => ∃ (i j : Nat) (ρ : Nat → Nat), s = .int .i64 (i : Int) ∧ t = .int .i64 (j : Int) ∧ 0 < i ∧ 0 < j ∧ i ≤ m ∧ m + j ≤ b ∧ Below B w0 wr ∧ FR wr g M n y ρ E ∧ ∀ p, p < n → ρ (rotP (m - i) m (m + j) p) = π (rotP a m b p)) (fun s t _ => (intOf s).toNat + (intOf t).toNat)
  case atStart => exact ⟨m - a, b - m, π, congrArg (Value.int .i64) (by omega), congrArg (Value.int .i64) (by omega), by omega, by omega, by omega, by omega, HB.out, HR.out, fun p _ => by rw [show m - (m - a) = a by omega, show m + (b - m) = b by omega]⟩
  case round =>
    clear HB HR
    obtain ⟨i, j, ρ, rfl, rfl, hi0, hj0, him, hjb, hbw, hrow, hrel⟩ := hrel
    have BW := Lib.hid hbw; have RW := Lib.hid hrow; have HX := Lib.hid hrel
    clear hbw hrow hrel
    obtain ⟨s, hs⟩ : ∃ s, s = m - i := ⟨_, rfl⟩
    have es : (m : Int) - (i : Int) = (s : Int) := by omega
    have HS := Lib.hid hs
    clear hs
    rcases Nat.lt_trichotomy j i with hij | hij | hij
    · have g1 : ((i : Int) != (j : Int)) = true := by simp; omega
      have g2 : (j : Int) < (i : Int) := by omega
      obtain ⟨d, hd⟩ : ∃ d, d = i - j := ⟨_, rfl⟩
      have ed : (i : Int) - (j : Int) = (d : Int) := by omega
      have hdl : 0 < d ∧ d ≤ m ∧ d < i := by omega
      have hs2 := HS.out
      have hsl : s + j ≤ m := by omega
      have HD := Lib.hid hd
      clear hd hs2
      have NX : Hid (∀ p, p < n → ρ (swR s m j (rotP (m - d) m (m + j) p)) = π (rotP a m b p)) := Lib.hid (fun p hp => by
        rw [← HX.out p hp, HS.out, HD.out, show m - (i - j) = m - i + j by omega, rot_more hij him])
      go_wp2_with fail
      refine (swapRange_any w0 B g n c M s m j y ρ E F _ hB BW.out RW.out hM hn (by omega) (by omega)).mono ?_
      rintro en w2 ⟨⟨v, rfl⟩, hb2, hr2⟩
      have B2 := Lib.hid hb2; have R2 := Lib.hid hr2
      clear hb2 hr2 BW RW
      go_wp2_with fail
      go_roundw
      case rel => exact ⟨d, j, _, rfl, rfl, by omega, by omega, by omega, by omega, B2.out, R2.out, NX.out⟩
      case measure => (simp [intOf] <;> omega)
    · subst hij
      have g1 : ((j : Int) != (j : Int)) = false := by simp
      have hs2 := HS.out
      have hsl : s + j ≤ m := by omega
      clear hs2
      have NX : Hid (∀ p, p < n → ρ (swR s m j p) = π (rotP a m b p)) := Lib.hid (fun p hp => by
        rw [← HX.out p hp, HS.out, rot_same him])
      go_wp2_with fail
      refine (swapRange_any w0 B g n c M s m j y ρ E F _ hB BW.out RW.out hM hn (by omega) (by omega)).mono ?_
      rintro en w2 ⟨⟨v, rfl⟩, hb2, hr2⟩
      have B2 := Lib.hid hb2; have R2 := Lib.hid (hr2.congr NX.out)
      clear hb2 hr2 BW RW
      go_wp2_with fail
      go_end0
      exact ⟨⟨_, rfl⟩, B2.out, R2.out⟩
    · have g1 : ((i : Int) != (j : Int)) = true := by simp; omega
      have g2 : ¬ (j : Int) < (i : Int) := by omega
      obtain ⟨d, hd⟩ : ∃ d, d = j - i := ⟨_, rfl⟩
      have ed : (j : Int) - (i : Int) = (d : Int) := by omega
      obtain ⟨t, ht⟩ : ∃ t, t = m + j - i := ⟨_, rfl⟩
      have et : (m : Int) + (j : Int) - (i : Int) = (t : Int) := by omega
      have hs2 := HS.out
      have hdl : 0 < d ∧ d < j ∧ m + d ≤ b ∧ s + i ≤ t ∧ t + i ≤ n := by omega
      have HD := Lib.hid hd; have HT := Lib.hid ht
      clear hd ht hs2
      have NX : Hid (∀ p, p < n → ρ (swR s t i (rotP (m - i) m (m + d) p)) = π (rotP a m b p)) := Lib.hid (fun p hp => by
        rw [← HX.out p hp, HS.out, HT.out, HD.out, show m + (j - i) = m + j - i by omega, rot_less hij him])
      go_wp2_with fail
      refine (swapRange_any w0 B g n c M s t i y ρ E F _ hB BW.out RW.out hM hn (by omega) (by omega)).mono ?_
      rintro en w2 ⟨⟨v, rfl⟩, hb2, hr2⟩
      have B2 := Lib.hid hb2; have R2 := Lib.hid hr2
      clear hb2 hr2 BW RW
      go_wp2_with fail
      go_roundw
      case rel => exact ⟨i, d, _, rfl, rfl, by omega, by omega, by omega, by omega, B2.out, R2.out, NX.out⟩
      case measure => (simp [intOf] <;> omega)
end Go.Proofs.Ytjakjnmfndfehaa
