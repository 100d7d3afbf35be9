/- Numbers of 72 words in memory: one added to another, the sign turned round: the program's walks. Conditions: the words are there. -/
import Derived.Test.YtjakjnmfndfehaaTc
import Derived.Laws.Externs
namespace Go.Proofs.Ytjakjnmfndfehaa
open Go.RowKit Go.Pst
set_option maxRecDepth 20000
set_option linter.unusedSimpArgs false
set_option linter.unusedVariables false

/-- New blocks, and writes to a part of one block. -/
structure Chg (w w' : World) (B o n : Nat) : Prop where
  g : w.grownBy w' (some B)
  cell : ∀ k, k < o ∨ o + n ≤ k → w'.cell? ⟨B, k, none⟩ = w.cell? ⟨B, k, none⟩
  fr : ∀ k, w'.frozen? ⟨B, k, none⟩ = w.frozen? ⟨B, k, none⟩
section
variable {w w' w2 : World} {B o n : Nat}
theorem Chg.refl (w : World) (B o n : Nat) : Chg w w B o n := ⟨⟨rfl, rfl, rfl, Nat.le_refl _, fun k _ _ => rfl⟩, fun _ _ => rfl, fun _ => rfl⟩
theorem Chg.set (h : Chg w w' B o n) {k : Nat} (h1 : o ≤ k) (h2 : k < o + n) (v : Value) : Chg w (w'.setCell ⟨B, k, none⟩ v) B o n where
  g := ⟨h.g.os, h.g.tape, h.g.output, by rw [Reg.size_setCell]; exact h.g.size, fun j hj hne => by
    rw [heap_setCell_other w' ⟨B, k, none⟩ j v (fun e => hne (by rw [e]))]; exact h.g.block j hj hne⟩
  cell j hj := by
    rw [World.cell?_setCell_other _ _ _ _ (by intro e; injection e with _ e2; omega)]
    exact h.cell j hj
  fr j := by simp only [World.frozen?_setCell]; exact h.fr j
theorem Chg.drew (h : Chg w w' B o n) : Chg w w'.drew B o n := ⟨⟨h.g.os, h.g.tape, h.g.output, h.g.size, h.g.block⟩, h.cell, h.fr⟩
theorem Chg.trans (h : Chg w w' B o n) (h2 : Chg w' w2 B o n) : Chg w w2 B o n where
  g := ⟨h2.g.os.trans h.g.os, h2.g.tape.trans h.g.tape, h2.g.output.trans h.g.output, Nat.le_trans h.g.size h2.g.size, fun j hj hne => (h2.g.block j (Nat.lt_of_lt_of_le hj h.g.size) hne).trans (h.g.block j hj hne)⟩
  cell j hj := (h2.cell j hj).trans (h.cell j hj)
  fr j := (h2.fr j).trans (h.fr j)
theorem Chg.after (h : Chg w w' B o n) (hB : B < w'.heap.size) (hb : Below w'.heap.size w' w2) : Chg w w2 B o n where
  g := ⟨hb.os.trans h.g.os, hb.tape.trans h.g.tape, hb.output.trans h.g.output, Nat.le_trans h.g.size hb.size, fun j hj hne => (hb.block j (Nat.lt_of_lt_of_le hj h.g.size)).trans (h.g.block j hj hne)⟩
  cell j hj := by rw [hb.cell (show B < w'.heap.size from hB)]; exact h.cell j hj
  fr j := by rw [hb.frozen (show B < w'.heap.size from hB)]; exact h.fr j
end

theorem WideAt.other {w : World} {B B2 o2 : Nat} {U : Nat → Nat} (h : WideAt w B2 o2 U) (hne : B ≠ B2) (k : Nat) (v : Value) : WideAt (w.setCell ⟨B, k, none⟩ v) B2 o2 U where
  lt := by rw [Reg.size_setCell]; exact h.lt
  fr j := by simp only [World.frozen?_setCell]; exact h.fr j
  cell i hi := by rw [World.cell?_setCell_other _ _ _ _ (by intro e; injection e with e1 _; exact hne e1)]; exact h.cell i hi

theorem madd64 (x y c : Nat) (hc : c ≤ 1) (w : World) : (callFunc 114 #[.int .u64 x, .int .u64 y, .int .u64 c]).run Try.prog w =
    .ok (.value (.tuple #[.int .u64 (((x + y + c) % W64 : Nat) : Int), .int .u64 (((x + y + c) / W64 : Nat) : Int)])) w := by
  rw [run_callFunc_extern Try.func114 (by kernel_rfl) (by kernel_rfl) (by kernel_rfl) (e := add64Entry) (by kernel_rfl), run_add64 x y c (by omega) (by omega) (by omega) (by omega)]
  simp only [Result.andThen]
  unfold W64
  congr 5 <;> omega
theorem madd64z (x c : Nat) (hc : c ≤ 1) (w : World) : (callFunc 114 #[.int .u64 x, .int .u64 0, .int .u64 c]).run Try.prog w =
    .ok (.value (.tuple #[.int .u64 (((x + c) % W64 : Nat) : Int), .int .u64 (((x + c) / W64 : Nat) : Int)])) w := madd64 x 0 c hc w
attribute [local go_sem] madd64 madd64z

theorem u64_not (x : Nat) (h : x < 18446744073709551616) : bits .xor .u64 (if IntKind.u64.signed = true then -1 else IntKind.u64.max) (x : Int) = ((W64 - 1 - x : Nat) : Int) := by
  show IntKind.u64.wrap ((BitVec.ofInt 64 18446744073709551615 ^^^ BitVec.ofInt 64 (x : Int)).toNat : Int) = _
  have e : BitVec.ofInt 64 18446744073709551615 = BitVec.allOnes 64 := by decide
  rw [e, BitVec.allOnes_xor, BitVec.toNat_not, BitVec.toNat_ofInt, IntKind.wrap_u64]
  unfold W64
  omega

/-- The words so far. -/
def mixW (V A : Nat → Nat) (k i : Nat) : Nat := if i < k then A i else V i

set_option maxHeartbeats 1000000 in
theorem add_any (B o B2 o2 : Nat) (V U : Nat → Nat) (w : World) (h : WideAt w B o V) (h2 : WideAt w B2 o2 U) (hne : B ≠ B2) (hV : wordB V) (hU : wordB U) :
    Calls Try.prog 93 #[.pointer (some ⟨B, o, none⟩), .pointer (some ⟨B2, o2, none⟩)] w fun en w' => (∃ v, en = .returned v) ∧ WideAt w' B o (addW V U) ∧ Chg w w' B o 72 := by
  have H := Lib.hid h; have H2 := Lib.hid h2; have HV := Lib.hid hV; have HU := Lib.hid hU
  clear h h2 hV hU
  go_enter Try.func93, Try.ntmps93
  go_wp2_with fail
  go_loopw [4, 8] (fun c t wr => ∃ k : Nat, t = .int .i64 k ∧ k ≤ 72 ∧ c = .int .u64 (carA V U k : Nat) ∧ WideAt wr B o (mixW V (addW V U) k) ∧ WideAt wr B2 o2 U ∧ Chg w wr B o 72) (fun _ t _ => 72 - (intOf t).toNat)
  case atStart => exact ⟨0, rfl, by omega, rfl, H.out.congr (fun i hi => by unfold mixW; rw [if_neg (by omega)]), H2.out, Chg.refl _ _ _ _⟩
  case round =>
    obtain ⟨k, rfl, hk, rfl, g, g2, hc⟩ := hrel
    have G := Lib.hid g; have G2 := Lib.hid g2; have CH := Lib.hid hc
    clear g g2 hc
    by_cases hk2 : k < 72
    · have h3 : (k : Int) < 72 := by omega
      have h0 : (0 : Int) ≤ (k : Int) := by omega
      have c1 := G.out.cell k hk2
      have c2 := G2.out.cell k hk2
      have hcar := carA_le (V := V) (U := U) k (fun i hi => ⟨HV.out i (by omega), HU.out i (by omega)⟩)
      have hst : carA V U (k + 1) = (V k + U k + carA V U k) / W64 := rfl
      have hsw : addW V U k = (V k + U k + carA V U k) % W64 := rfl
      rw [show mixW V (addW V U) k k = V k by unfold mixW; rw [if_neg (by omega)]] at c1
      obtain ⟨x, hx⟩ : ∃ x, x = V k := ⟨_, rfl⟩
      obtain ⟨y, hy⟩ : ∃ y, y = U k := ⟨_, rfl⟩
      obtain ⟨c, hc⟩ : ∃ c, c = carA V U k := ⟨_, rfl⟩
      rw [← hx] at c1; rw [← hy] at c2; rw [← hx, ← hy, ← hc] at hst hsw; rw [← hc] at hcar ⊢
      have HST := Lib.hid hst; have HSW := Lib.hid hsw; have HX := Lib.hid hx
      have z1 := G.out.lt; have z2 := G2.out.lt
      clear hx hy hc hst hsw
      go_wp2_with fail
      refine Reg.wp_region_rd (by kernel_rfl) (by kernel_rfl) (fun _ => ?_)
      repeat (refine Reg.rd_op rfl ?_; apply Exists.intro; apply And.intro; (intro w' hb; have hc := Reg.rd_cells hb; clear hb; go_simp; (try go_bits); first | done | (with_reducible exact rfl)); (intro _ a' ha'; simp only [Act.put, List.setIfInBounds_toArray, List.set_cons_zero, List.set_cons_succ] at ha'; subst ha'))
      refine Reg.rd_end (fun wz hb => ?_)
      have G3 := Lib.hid (G.out.below hb); have G4 := Lib.hid (G2.out.below hb); have CH2 := Lib.hid (CH.out.after z1 hb)
      clear c1 c2 z1 z2 hb
      have c1 := G3.out.cell k hk2
      rw [show mixW V (addW V U) k k = V k by unfold mixW; rw [if_neg (by omega)], ← HX.out] at c1
      have f1 := G3.out.fr (o + k)
      go_wp2_with fail
      go_big_region
      have G5 := Lib.hid (((G3.out.set (x := (x + y + c) % W64) hk2).below (Below.refl _ _).drew).congr (U := mixW V (addW V U) (k + 1)) (fun i hi => by
        unfold upd mixW
        by_cases e : i = k
        · rw [if_pos e, e, if_pos (by omega), HSW.out]
        · rw [if_neg e]
          by_cases e2 : i < k
          · rw [if_pos e2, if_pos (by omega)]
          · rw [if_neg e2, if_neg (by omega)]))
      have G6 := Lib.hid ((G4.out.other hne (o + k) (.int .u64 (((x + y + c) % W64 : Nat) : Int))).below (Below.refl _ _).drew)
      have CH3 := Lib.hid ((CH2.out.set (k := o + k) (by omega) (by omega) (.int .u64 (((x + y + c) % W64 : Nat) : Int))).drew)
      clear c1 f1
      go_wp2_with fail
      go_roundw
      case rel => exact ⟨k + 1, by go_num, by omega, by rw [HST.out]; simp, G5.out, G6.out, CH3.out⟩
      case measure => (simp [intOf] <;> omega)
    · obtain rfl : k = 72 := by omega
      have G5 := Lib.hid (G.out.congr (U := addW V U) (fun i hi => by unfold mixW; rw [if_pos hi]))
      go_wp2_with fail
      go_end0
      exact ⟨⟨_, rfl⟩, G5.out, CH.out⟩

set_option maxHeartbeats 1000000 in
theorem negate_any (B o : Nat) (V : Nat → Nat) (w : World) (h : WideAt w B o V) (hV : wordB V) :
    Calls Try.prog 92 #[.pointer (some ⟨B, o, none⟩)] w fun en w' => (∃ v, en = .returned v) ∧ WideAt w' B o (negW V) ∧ Chg w w' B o 72 := by
  have H := Lib.hid h; have HV := Lib.hid hV
  clear h hV
  go_enter Try.func92, Try.ntmps92
  go_wp2_with fail
  go_loopw [2, 6] (fun c t wr => ∃ k : Nat, t = .int .i64 k ∧ k ≤ 72 ∧ c = .int .u64 (carN V k : Nat) ∧ WideAt wr B o (mixW V (negW V) k) ∧ Chg w wr B o 72) (fun _ t _ => 72 - (intOf t).toNat)
  case atStart => exact ⟨0, rfl, by omega, rfl, H.out.congr (fun i hi => by unfold mixW; rw [if_neg (by omega)]), Chg.refl _ _ _ _⟩
  case round =>
    obtain ⟨k, rfl, hk, rfl, g, hc⟩ := hrel
    have G := Lib.hid g; have CH := Lib.hid hc
    clear g hc
    by_cases hk2 : k < 72
    · have h3 : (k : Int) < 72 := by omega
      have h0 : (0 : Int) ≤ (k : Int) := by omega
      have c1 := G.out.cell k hk2
      have hcar : carN V k ≤ 1 := carN_le k
      have hst : carN V (k + 1) = (W64 - 1 - V k + carN V k) / W64 := rfl
      have hsw : negW V k = (W64 - 1 - V k + carN V k) % W64 := rfl
      have hxl := HV.out k hk2
      rw [show mixW V (negW V) k k = V k by unfold mixW; rw [if_neg (by omega)]] at c1
      obtain ⟨x, hx⟩ : ∃ x, x = V k := ⟨_, rfl⟩
      obtain ⟨c, hc⟩ : ∃ c, c = carN V k := ⟨_, rfl⟩
      rw [← hx] at c1 hst hsw hxl; rw [← hc] at hst hsw hcar ⊢
      have HX := Lib.hid hx
      have z1 := G.out.lt
      unfold W64 at hxl
      have hinv := u64_not x hxl
      obtain ⟨y, hy⟩ : ∃ y, y = W64 - 1 - x := ⟨_, rfl⟩
      rw [← hy] at hinv hst hsw
      have HST := Lib.hid hst; have HSW := Lib.hid hsw
      clear hy hx hc hst hsw
      go_wp2_with fail
      refine Reg.wp_region_rd (by kernel_rfl) (by kernel_rfl) (fun _ => ?_)
      repeat (refine Reg.rd_op rfl ?_; apply Exists.intro; apply And.intro; (intro w' hb; have hc := Reg.rd_cells hb; clear hb; go_simp; (try go_bits); first | done | (with_reducible exact rfl)); (intro _ a' ha'; simp only [Act.put, List.setIfInBounds_toArray, List.set_cons_zero, List.set_cons_succ] at ha'; subst ha'))
      refine Reg.rd_end (fun wz hb => ?_)
      have G3 := Lib.hid (G.out.below hb); have CH2 := Lib.hid (CH.out.after z1 hb)
      clear c1 z1 hb
      have c1 := G3.out.cell k hk2
      rw [show mixW V (negW V) k k = V k by unfold mixW; rw [if_neg (by omega)], ← HX.out] at c1
      have f1 := G3.out.fr (o + k)
      go_wp2_with fail
      go_big_region
      have G5 := Lib.hid (((G3.out.set (x := (y + c) % W64) hk2).below (Below.refl _ _).drew).congr (U := mixW V (negW V) (k + 1)) (fun i hi => by
        unfold upd mixW
        by_cases e : i = k
        · rw [if_pos e, e, if_pos (by omega), HSW.out]
        · rw [if_neg e]
          by_cases e2 : i < k
          · rw [if_pos e2, if_pos (by omega)]
          · rw [if_neg e2, if_neg (by omega)]))
      have CH3 := Lib.hid ((CH2.out.set (k := o + k) (by omega) (by omega) (.int .u64 (((y + c) % W64 : Nat) : Int))).drew)
      clear c1 f1
      go_wp2_with fail
      go_roundw
      case rel => exact ⟨k + 1, by go_num, by omega, by rw [HST.out]; simp, G5.out, CH3.out⟩
      case measure => (simp [intOf] <;> omega)
    · obtain rfl : k = 72 := by omega
      have G5 := Lib.hid (G.out.congr (U := negW V) (fun i hi => by unfold mixW; rw [if_pos hi]))
      go_wp2_with fail
      go_end0
      exact ⟨⟨_, rfl⟩, G5.out, CH.out⟩
end Go.Proofs.Ytjakjnmfndfehaa
