/- Numbers of 72 words in memory; the sign, a bit, whether one is set, how many bits: the program's walks. Conditions: the words are there. -/
import Derived.Test.YtjakjnmfndfehaaTa
import Derived.Deep.MidRow
import Derived.Deep.RegionHeld3
import Derived.LoopTactic
import Derived.BigRegion
namespace Go.Proofs.Ytjakjnmfndfehaa
open Go.RowKit Go.Pst
set_option maxRecDepth 20000
set_option linter.unusedSimpArgs false
set_option linter.unusedVariables false

/-- Words in memory. -/
structure WideAt (w : World) (B o : Nat) (V : Nat → Nat) : Prop where
  lt : B < w.heap.size
  fr : ∀ k, w.frozen? ⟨B, k, none⟩ = false
  cell : ∀ i, i < 72 → w.cell? ⟨B, o + i, none⟩ = some (.int .u64 (V i))

section
variable {w w' : World} {B o : Nat} {V : Nat → Nat}
theorem WideAt.below (h : WideAt w B o V) (hb : Below w.heap.size w w') : WideAt w' B o V where
  lt := Nat.lt_of_lt_of_le h.lt hb.size
  fr k := by rw [hb.frozen (show B < w.heap.size from h.lt)]; exact h.fr k
  cell i hi := by rw [hb.cell (show B < w.heap.size from h.lt)]; exact h.cell i hi
theorem WideAt.grown {row : Option Nat} (h : WideAt w B o V) (hg : w.grownBy w' row) (hr : row ≠ some B) : WideAt w' B o V where
  lt := Nat.lt_of_lt_of_le h.lt hg.size
  fr k := by rw [World.frozen?_of_block (a := ⟨B, k, none⟩) (hg.block B h.lt (Ne.symm hr))]; exact h.fr k
  cell i hi := by rw [World.cell?_of_block (a := ⟨B, o + i, none⟩) (hg.block B h.lt (Ne.symm hr))]; exact h.cell i hi
def upd (V : Nat → Nat) (k x : Nat) (i : Nat) : Nat := if i = k then x else V i
theorem WideAt.set (h : WideAt w B o V) {k x : Nat} (hk : k < 72) : WideAt (w.setCell ⟨B, o + k, none⟩ (.int .u64 x)) B o (upd V k x) where
  lt := by rw [Reg.size_setCell]; exact h.lt
  fr j := by simp only [World.frozen?_setCell]; exact h.fr j
  cell i hi := by
    unfold upd
    by_cases hik : i = k
    · rw [if_pos hik, hik]; exact World.cell?_setCell_same _ _ _ (h.cell k hk)
    · rw [if_neg hik, World.cell?_setCell_other _ _ _ _ (by intro e; injection e with _ e2; omega)]
      exact h.cell i hi
theorem WideAt.congr {U : Nat → Nat} (h : WideAt w B o V) (hc : ∀ i, i < 72 → V i = U i) : WideAt w B o U :=
  ⟨h.lt, h.fr, fun i hi => by rw [← hc i hi]; exact h.cell i hi⟩
end

set_option maxHeartbeats 1000000 in
theorem sign_any (B o : Nat) (V : Nat → Nat) (s : Int) (w : World) (h : WideAt w B o V) (hV : WIs V s) (hs : Small s) :
    Calls Try.prog 94 #[.pointer (some ⟨B, o, none⟩)] w fun en w' => en = .returned (.int .i64 (sgnI s)) ∧ w = w' := by
  have hn := neg_iff hV hs
  have hz := zero_iff hV hs
  have HC := Lib.hid h.cell
  have c71 := h.cell 71 (by omega)
  have hb71 := hV.1 71 (by omega)
  unfold W64 at hb71
  obtain ⟨v, hv⟩ : ∃ v, v = V 71 := ⟨_, rfl⟩
  rw [← hv] at hb71 hn c71
  obtain ⟨r, hr⟩ : ∃ r, r = sgnI s := ⟨_, rfl⟩
  rw [← hr]
  by_cases hneg : s < 0
  · have h1 := hn.2 hneg
    have hr1 : r = -1 := by rw [hr]; unfold sgnI; rw [if_pos hneg]
    subst hr1
    have h2 : (v : Int) / 9223372036854775808 = 1 := by omega
    clear hn hz hv hr h
    go_enter Try.func94, Try.ntmps94
    go_wp2_with fail
    go_ret
    exact ⟨rfl, rfl⟩
  · have h1 : v < 2 ^ 63 := by
      rcases Nat.lt_or_ge v (2 ^ 63) with h1 | h1
      · exact h1
      · exact absurd (hn.1 h1) hneg
    have h2 : (v : Int) / 9223372036854775808 = 0 := by omega
    have hr1 : r = if s = 0 then 0 else 1 := by rw [hr]; unfold sgnI; rw [if_neg hneg]
    have HR := Lib.hid hr1
    have HZ := Lib.hid hz
    clear hn hv hr h hr1 hz
    go_enter Try.func94, Try.ntmps94
    go_wp2_with fail
    go_loop [12] (fun t => ∃ k : Nat, t = .int .i64 k ∧ k ≤ 72 ∧ ∀ i, i < k → V i = 0) (fun t => 72 - (intOf t).toNat)
    case atStart => exact ⟨0, rfl, by omega, fun i hi => by omega⟩
    case round =>
      obtain ⟨k, rfl, hk, hall⟩ := hrel
      have HA := Lib.hid hall
      clear hall
      by_cases hk2 : k < 72
      · have c := HC.out k hk2
        have h3 : (k : Int) < 72 := by omega
        by_cases h0 : V k = 0
        · have HN : Hid (∀ i, i < k + 1 → V i = 0) := Lib.hid (fun i hi => by
            by_cases e : i = k
            · rw [e]; exact h0
            · exact HA.out i (by omega))
          rw [h0] at c
          clear h0
          go_wp2_with fail
          go_round
          case rel => exact ⟨k + 1, by go_num, by omega, HN.out⟩
          case measure => (simp [intOf] <;> omega)
        · have hs0 : s ≠ 0 := fun e => h0 (HZ.out.2 e k hk2)
          have hr1 : r = 1 := by rw [HR.out, if_neg hs0]
          subst hr1
          obtain ⟨x, hx⟩ : ∃ x, x = V k := ⟨_, rfl⟩
          rw [← hx] at c h0
          have h4 : ((x : Int) != 0) = true := by simpa using h0
          clear hx h0 hs0
          go_wp2_with fail
          go_ret
          exact ⟨rfl, rfl⟩
      · obtain rfl : k = 72 := by omega
        have hs0 : s = 0 := HZ.out.1 HA.out
        have hr1 : r = 0 := by rw [HR.out, if_pos hs0]
        subst hr1
        clear hs0
        go_wp2_with fail
        go_ret
        exact ⟨rfl, rfl⟩
end Go.Proofs.Ytjakjnmfndfehaa
