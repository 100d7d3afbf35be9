/- The two names that edits speak of: walk. Condition: not too many edits. -/
import Derived.Test.YtkhdemaanakbeaaEc
import Derived.Test.YtkhdemaanakbeaaCi
import Derived.Deep.RegionHeld3
namespace Go.Proofs.Ytkhdemaanakbeaa
open Go.RowKit Go.Pst
set_option maxRecDepth 20000
set_option linter.unusedSimpArgs false
set_option linter.unusedVariables false
def stA (x : Int × Int × Int) : List Int := if x.1 = 1 ∨ x.1 = 2 ∨ x.1 = 3 then [x.2.1] else if x.1 = 5 then [x.2.1, x.2.2] else []
def stB (x : Int × Int × Int) : List Int := if x.1 = 1 ∨ x.1 = 2 ∨ x.1 = 4 then [x.2.2] else if x.1 = 5 then [x.2.2, x.2.1] else []
def apA (E : Nat → Int × Int × Int) : Nat → List Int
  | 0 => []
  | t + 1 => apA E t ++ stA (E t)
def apB (E : Nat → Int × Int × Int) : Nat → List Int
  | 0 => []
  | t + 1 => apB E t ++ stB (E t)
def runes (l : List Int) : List Value := l.map fun z => .int .i32 z
theorem infoRune : (Try.prog.info? 21).map (fun i => (i.zero, i.size, i.bytes)) = some (some (.int .i32 0), 1, 4) := by kernel_rfl
def Aparts (va vb : Value) : Prop := ∀ k, va.ownBlock = some k → vb.ownBlock ≠ some k
def ApplyPost (la lb : List Int) (w : World) (en : Ending) (w' : World) : Prop :=
  ∃ A c B d, en = .returned (.tuple #[.slice A la.length c, .slice B lb.length d]) ∧ w'.ownsRow w.heap.size 21 1 (.slice A la.length c) la.length (runes la) ∧ w'.ownsRow w.heap.size 21 1 (.slice B lb.length d) lb.length (runes lb) ∧ Below w.heap.size w w'
theorem runes_app (a b : List Int) : runes (a ++ b) = runes a ++ runes b := by unfold runes; rw [List.map_append]
theorem runes_len (a : List Int) : (runes a).length = a.length := by unfold runes; simp
theorem blk_a (W : World) (A : Obj) : (W.alloc A).drew.heap[W.heap.size]? = some A := heap_alloc_new W A
theorem blk_b (W : World) (A B : Obj) : ((W.alloc A).alloc B).drew.heap[W.heap.size]? = some A := (heap_alloc_old (W.alloc A) B (by simp)).trans (heap_alloc_new W A)
theorem blk_c (W : World) (A B : Obj) : ((W.alloc B).alloc A).drew.heap[W.heap.size + 1]? = some A := by
  have := heap_alloc_new (W.alloc B) A
  have e : (W.alloc B).heap.size = W.heap.size + 1 := by simp
  rw [e] at this; exact this
theorem ne_own {va vb : Value} {g H : Nat} (h : Aparts va vb) (ha : va.ownBlock = some g ∨ g = H) (hH : vb.ownBlock = some g → g ≠ H) : vb.ownBlock ≠ some g := fun e => by
  rcases ha with h1 | h1
  · exact h g h1 e
  · exact hH e h1
set_option maxHeartbeats 4000000 in
theorem apply_any (n c : Nat) (A : Option Addr) (E : Nat → Int × Int × Int) (w : World) (hn : n ≤ 2097152) (hE : EdAt w w.heap.size A n E) :
    Calls Try.prog 36 #[.slice A n c] w (ApplyPost (apA E n) (apB E n) w) := by
  obtain ⟨j0, hj0, hy0, hy1, hy2⟩ := info_parts infoRune
  have J0 := Lib.hid hj0; have J1 := Lib.hid hy0; have J2 := Lib.hid hy1; have J3 := Lib.hid hy2
  clear hj0 hy0 hy1 hy2
  have HE := Lib.hid hE
  clear hE
  go_enter Try.func36, Try.ntmps36
  go_wp2_with fail
  go_loopw [4, 5, 10] (fun l4 l5 t wr => ∃ (k : Nat) (va vb : Value), va = l4 ∧ vb = l5 ∧ t = .int .i64 (k : Int) ∧ k ≤ n ∧ (apA E k).length ≤ 2 * k ∧ (apB E k).length ≤ 2 * k ∧ wr.ownsRow w.heap.size 21 1 va (apA E k).length (runes (apA E k)) ∧ wr.ownsRow w.heap.size 21 1 vb (apB E k).length (runes (apB E k)) ∧ Aparts va vb ∧ Below w.heap.size w wr) (fun _ _ t _ => n - (intOf t).toNat)
  case atStart => exact ⟨0, _, _, rfl, rfl, rfl, by omega, by simp [apA], by simp [apB], World.ownsRow_nil _ _ _ _, World.ownsRow_nil _ _ _ _, fun k h => by simp [Value.ownBlock] at h, Below.refl _ _⟩
  case round =>
    obtain ⟨k, va, vb, rfl, rfl, rfl, hk, hla, hlb, hwa, hwb, hap, hbw⟩ := hrel
    have WA := Lib.hid hwa; have WB := Lib.hid hwb; have AP := Lib.hid hap; have BW := Lib.hid hbw
    have hsz := hbw.size
    clear hwa hwb hap hbw
    by_cases hkn : k < n
    · have h3 : (k : Int) < (n : Int) := by omega
      have h00 : (0 : Int) ≤ (k : Int) := by omega
      obtain ⟨g, off, rfl, hg, hc⟩ := (HE.out.below BW.out (Nat.le_refl _)) (by omega)
      obtain ⟨q1, q2, q3⟩ := hc k hkn
      have hg2 : g < wr.heap.size := by omega
      have EA : Hid (apA E (k + 1) = apA E k ++ stA (E k)) := Lib.hid rfl
      have EB : Hid (apB E (k + 1) = apB E k ++ stB (E k)) := Lib.hid rfl
      clear hc
      obtain ⟨ex, hex⟩ : ∃ x, x = E k := ⟨_, rfl⟩
      rw [← hex] at q1 q2 q3 EA EB
      clear hex
      obtain ⟨x1, x2, x3⟩ := ex
      by_cases h1 : x1 = 1
      · subst h1
        go_wp2_with fail
        generalize hW0 : wr.alloc (.cells #[.int .i64 1, .int .i32 x2, .int .i32 x3] 79) = W0
        have s1 : W0.cell? ⟨wr.heap.size, 1, none⟩ = some (.int .i32 x2) := by rw [← hW0, cell_of_row _ _ _ _ _ _ (heap_alloc_new _ _)]; rfl
        have s2 : W0.cell? ⟨wr.heap.size, 2, none⟩ = some (.int .i32 x3) := by rw [← hW0, cell_of_row _ _ _ _ _ _ (heap_alloc_new _ _)]; rfl
        have hz0 : W0.heap.size = wr.heap.size + 1 := by rw [← hW0]; simp
        have WA0 : Hid (W0.ownsRow w.heap.size 21 1 va (apA E k).length (runes (apA E k))) := Lib.hid (by rw [← hW0]; exact WA.out.alloc _)
        have WB0 : Hid (W0.ownsRow w.heap.size 21 1 vb (apB E k).length (runes (apB E k))) := Lib.hid (by rw [← hW0]; exact WB.out.alloc _)
        have BW0 : Hid (Below w.heap.size w W0) := Lib.hid (by rw [← hW0]; exact BW.out.alloc hsz _)
        have HZ0 := Lib.hid hz0
        have b7 : wr.heap.size < W0.heap.size := by omega
        have hsz0 : w.heap.size ≤ W0.heap.size := by omega
        have na : va.ownBlock ≠ some wr.heap.size := fun e => by have := (WA.out.lt _ e).2; omega
        have nb : vb.ownBlock ≠ some wr.heap.size := fun e => by have := (WB.out.lt _ e).2; omega
        have nab : vb.ownBlock = none ∨ vb.ownBlock ≠ va.ownBlock := by
          cases h : vb.ownBlock with
          | none => exact .inl rfl
          | some q => exact .inr fun e => AP.out q e.symm h
        have LA := Lib.hid fun q (e : va.ownBlock = some q) => WA.out.lt q e
        have LB := Lib.hid fun q (e : vb.ownBlock = some q) => WB.out.lt q e
        have NAB := Lib.hid nab; have NA := Lib.hid na; have NB := Lib.hid nb
        clear hW0 q1 q2 q3 hz0 nab na nb
        go_region_held3 (fun w2 => w2.cell? ⟨wr.heap.size, 1, none⟩ = some (.int .i32 x2) ∧ w2.cell? ⟨wr.heap.size, 2, none⟩ = some (.int .i32 x3))
          (first | (go_split_ands; exact ⟨by assumption, by assumption⟩) | go_keep)
          (first
            | ((go_split_ands; refine step_append_lies _ (by rfl) _ _ _ (by rfl) w.heap.size 21 j0 _ 1 4 Try.underlying22 J0.out J1.out J2.out J3.out rfl (by omega) va (apA E k).length (runes (apA E k)) (by rfl) (by first | exact (WA0.out.drew).alloc _ | exact ((WA0.out.drew).alloc _).alloc _) ⟨_, 0, none⟩ 1 1 [.int .i32 x2] (by rfl) (by rfl) (World.news_of_block (cs := #[.int .i32 x2]) (t := 21) (fr := (0, 0)) (by first | exact blk_a W0 _ | exact blk_b W0 _ _ | exact blk_c W0 _ _)) (by simp [Value.oneCell']) (by omega) (by unfold maxLen; omega) (by omega) (by simp; omega) _ rfl ?_; intro g1 cap1 w1 hown1 hgrow1 hat1 hlt1; have OA1 := Lib.hid hown1; have HG1 := Lib.hid hgrow1; have HAT1 := Lib.hid hat1; have OB1 := Lib.hid (World.ownsRow.kept (by first | exact (WB0.out.drew).alloc _ | exact ((WB0.out.drew).alloc _).alloc _) hgrow1 NAB.out); have BW1 := Lib.hid (Below.grown (by first | exact (BW0.out.drew).alloc hsz0 _ | exact ((BW0.out.drew).alloc hsz0 _).alloc (by simp; omega) _) hgrow1 (by simp; omega) (fun q e => (LA.out q e).1)); have c1 := (hgrow1.cell_far ⟨wr.heap.size, 1, none⟩ (by simp; omega) (Ne.symm NA.out)).trans (by assumption); have c2 := (hgrow1.cell_far ⟨wr.heap.size, 2, none⟩ (by simp; omega) (Ne.symm NA.out)).trans (by assumption); have b8 : wr.heap.size < w1.heap.size := Nat.lt_of_lt_of_le b7 (Nat.le_trans (by first | (simp; done) | (simp; omega)) hgrow1.size); have NE1 := Lib.hid (ne_own AP.out hat1 (fun e => by have := (LB.out g1 e).2; simp at *; omega)); clear hown1 hgrow1 hat1))
            | ((go_split_ands; refine step_append_lies _ (by rfl) _ _ _ (by rfl) w.heap.size 21 j0 _ 1 4 Try.underlying22 J0.out J1.out J2.out J3.out rfl (by omega) vb (apB E k).length (runes (apB E k)) (by rfl) (by first | exact OB1.out | exact OB1.out.alloc _) ⟨_, 0, none⟩ 1 1 [.int .i32 x3] (by rfl) (by rfl) (World.news_of_block (cs := #[.int .i32 x3]) (t := 21) (fr := (0, 0)) (by first | exact heap_alloc_new w1 _ | (refine (HG1.out.block _ (by first | (simp; done) | (simp; omega)) (fun e => by have := (LA.out _ e.symm).2; omega)).trans ?_; first | exact blk_b W0 _ _ | exact blk_c W0 _ _))) (by simp [Value.oneCell']) (by omega) (by unfold maxLen; omega) (by omega) (by have := BW1.out.size; simp; omega) _ rfl ?_; intro g2 cap2 w2 hown2 hgrow2 hat2 hlt2; have OB2 := Lib.hid hown2; have HAT2 := Lib.hid hat2; have OA2 := Lib.hid (World.ownsRow.kept (by first | exact OA1.out | exact OA1.out.alloc _) hgrow2 (.inr (fun e => NE1.out (by simpa [Value.ownBlock] using e.symm)))); have BW2 := Lib.hid (Below.grown (by first | exact BW1.out | exact BW1.out.alloc BW1.out.size _) hgrow2 (by have := BW1.out.size; simp; omega) (fun q e => (LB.out q e).1)); have c3 := (hgrow2.cell_far ⟨wr.heap.size, 1, none⟩ (by simp; omega) (Ne.symm NB.out)).trans (by assumption); have c4 := (hgrow2.cell_far ⟨wr.heap.size, 2, none⟩ (by simp; omega) (Ne.symm NB.out)).trans (by assumption); clear hown2 hgrow2 hat2)))
        all_goals
          have ap2 : Aparts (.slice (some ⟨g1, 0, none⟩) ((apA E k).length + 1) cap1) (.slice (some ⟨g2, 0, none⟩) ((apB E k).length + 1) cap2) := fun q e1 e2 => by
            have e3 : g1 = q := by simpa [Value.ownBlock] using e1
            have e4 : g2 = q := by simpa [Value.ownBlock] using e2
            rcases HAT2.out with h | h
            · exact NE1.out (by rw [h, e4, e3])
            · (try simp at h); omega
          have ea : apA E (k + 1) = apA E k ++ [x2] := EA.out
          have eb : apB E (k + 1) = apB E k ++ [x3] := EB.out
          have AP2 := Lib.hid ap2; have EA2 := Lib.hid ea; have EB2 := Lib.hid eb
          clear ap2 ea eb
          go_wp2_with fail
          go_roundw
          case rel => exact ⟨k + 1, _, _, rfl, rfl, by go_num, by omega, by rw [EA2.out, List.length_append]; simp; omega, by rw [EB2.out, List.length_append]; simp; omega, by rw [EA2.out, runes_app, List.length_append]; exact OA2.out, by rw [EB2.out, runes_app, List.length_append]; exact OB2.out, AP2.out, BW2.out⟩
          case measure => (simp [intOf] <;> omega)
      · by_cases h2 : x1 = 2
        · subst h2
          go_wp2_with fail
          generalize hW0 : wr.alloc (.cells #[.int .i64 2, .int .i32 x2, .int .i32 x3] 79) = W0
          have s1 : W0.cell? ⟨wr.heap.size, 1, none⟩ = some (.int .i32 x2) := by rw [← hW0, cell_of_row _ _ _ _ _ _ (heap_alloc_new _ _)]; rfl
          have s2 : W0.cell? ⟨wr.heap.size, 2, none⟩ = some (.int .i32 x3) := by rw [← hW0, cell_of_row _ _ _ _ _ _ (heap_alloc_new _ _)]; rfl
          have hz0 : W0.heap.size = wr.heap.size + 1 := by rw [← hW0]; simp
          have WA0 : Hid (W0.ownsRow w.heap.size 21 1 va (apA E k).length (runes (apA E k))) := Lib.hid (by rw [← hW0]; exact WA.out.alloc _)
          have WB0 : Hid (W0.ownsRow w.heap.size 21 1 vb (apB E k).length (runes (apB E k))) := Lib.hid (by rw [← hW0]; exact WB.out.alloc _)
          have BW0 : Hid (Below w.heap.size w W0) := Lib.hid (by rw [← hW0]; exact BW.out.alloc hsz _)
          have HZ0 := Lib.hid hz0
          have b7 : wr.heap.size < W0.heap.size := by omega
          have hsz0 : w.heap.size ≤ W0.heap.size := by omega
          have na : va.ownBlock ≠ some wr.heap.size := fun e => by have := (WA.out.lt _ e).2; omega
          have nb : vb.ownBlock ≠ some wr.heap.size := fun e => by have := (WB.out.lt _ e).2; omega
          have nab : vb.ownBlock = none ∨ vb.ownBlock ≠ va.ownBlock := by
            cases h : vb.ownBlock with
            | none => exact .inl rfl
            | some q => exact .inr fun e => AP.out q e.symm h
          have LA := Lib.hid fun q (e : va.ownBlock = some q) => WA.out.lt q e
          have LB := Lib.hid fun q (e : vb.ownBlock = some q) => WB.out.lt q e
          have NAB := Lib.hid nab; have NA := Lib.hid na; have NB := Lib.hid nb
          clear hW0 q1 q2 q3 hz0 nab na nb
          go_region_held3 (fun w2 => w2.cell? ⟨wr.heap.size, 1, none⟩ = some (.int .i32 x2) ∧ w2.cell? ⟨wr.heap.size, 2, none⟩ = some (.int .i32 x3))
            (first | (go_split_ands; exact ⟨by assumption, by assumption⟩) | go_keep)
            (first
              | ((go_split_ands; refine step_append_lies _ (by rfl) _ _ _ (by rfl) w.heap.size 21 j0 _ 1 4 Try.underlying22 J0.out J1.out J2.out J3.out rfl (by omega) va (apA E k).length (runes (apA E k)) (by rfl) (by first | exact (WA0.out.drew).alloc _ | exact ((WA0.out.drew).alloc _).alloc _) ⟨_, 0, none⟩ 1 1 [.int .i32 x2] (by rfl) (by rfl) (World.news_of_block (cs := #[.int .i32 x2]) (t := 21) (fr := (0, 0)) (by first | exact blk_a W0 _ | exact blk_b W0 _ _ | exact blk_c W0 _ _)) (by simp [Value.oneCell']) (by omega) (by unfold maxLen; omega) (by omega) (by simp; omega) _ rfl ?_; intro g1 cap1 w1 hown1 hgrow1 hat1 hlt1; have OA1 := Lib.hid hown1; have HG1 := Lib.hid hgrow1; have HAT1 := Lib.hid hat1; have OB1 := Lib.hid (World.ownsRow.kept (by first | exact (WB0.out.drew).alloc _ | exact ((WB0.out.drew).alloc _).alloc _) hgrow1 NAB.out); have BW1 := Lib.hid (Below.grown (by first | exact (BW0.out.drew).alloc hsz0 _ | exact ((BW0.out.drew).alloc hsz0 _).alloc (by simp; omega) _) hgrow1 (by simp; omega) (fun q e => (LA.out q e).1)); have c1 := (hgrow1.cell_far ⟨wr.heap.size, 1, none⟩ (by simp; omega) (Ne.symm NA.out)).trans (by assumption); have c2 := (hgrow1.cell_far ⟨wr.heap.size, 2, none⟩ (by simp; omega) (Ne.symm NA.out)).trans (by assumption); have b8 : wr.heap.size < w1.heap.size := Nat.lt_of_lt_of_le b7 (Nat.le_trans (by first | (simp; done) | (simp; omega)) hgrow1.size); have NE1 := Lib.hid (ne_own AP.out hat1 (fun e => by have := (LB.out g1 e).2; simp at *; omega)); clear hown1 hgrow1 hat1))
              | ((go_split_ands; refine step_append_lies _ (by rfl) _ _ _ (by rfl) w.heap.size 21 j0 _ 1 4 Try.underlying22 J0.out J1.out J2.out J3.out rfl (by omega) vb (apB E k).length (runes (apB E k)) (by rfl) (by first | exact OB1.out | exact OB1.out.alloc _) ⟨_, 0, none⟩ 1 1 [.int .i32 x3] (by rfl) (by rfl) (World.news_of_block (cs := #[.int .i32 x3]) (t := 21) (fr := (0, 0)) (by first | exact heap_alloc_new w1 _ | (refine (HG1.out.block _ (by first | (simp; done) | (simp; omega)) (fun e => by have := (LA.out _ e.symm).2; omega)).trans ?_; first | exact blk_b W0 _ _ | exact blk_c W0 _ _))) (by simp [Value.oneCell']) (by omega) (by unfold maxLen; omega) (by omega) (by have := BW1.out.size; simp; omega) _ rfl ?_; intro g2 cap2 w2 hown2 hgrow2 hat2 hlt2; have OB2 := Lib.hid hown2; have HAT2 := Lib.hid hat2; have OA2 := Lib.hid (World.ownsRow.kept (by first | exact OA1.out | exact OA1.out.alloc _) hgrow2 (.inr (fun e => NE1.out (by simpa [Value.ownBlock] using e.symm)))); have BW2 := Lib.hid (Below.grown (by first | exact BW1.out | exact BW1.out.alloc BW1.out.size _) hgrow2 (by have := BW1.out.size; simp; omega) (fun q e => (LB.out q e).1)); have c3 := (hgrow2.cell_far ⟨wr.heap.size, 1, none⟩ (by simp; omega) (Ne.symm NB.out)).trans (by assumption); have c4 := (hgrow2.cell_far ⟨wr.heap.size, 2, none⟩ (by simp; omega) (Ne.symm NB.out)).trans (by assumption); clear hown2 hgrow2 hat2)))
          all_goals
            have ap2 : Aparts (.slice (some ⟨g1, 0, none⟩) ((apA E k).length + 1) cap1) (.slice (some ⟨g2, 0, none⟩) ((apB E k).length + 1) cap2) := fun q e1 e2 => by
              have e3 : g1 = q := by simpa [Value.ownBlock] using e1
              have e4 : g2 = q := by simpa [Value.ownBlock] using e2
              rcases HAT2.out with h | h
              · exact NE1.out (by rw [h, e4, e3])
              · (try simp at h); omega
            have ea : apA E (k + 1) = apA E k ++ [x2] := EA.out
            have eb : apB E (k + 1) = apB E k ++ [x3] := EB.out
            have AP2 := Lib.hid ap2; have EA2 := Lib.hid ea; have EB2 := Lib.hid eb
            clear ap2 ea eb
            go_wp2_with fail
            go_roundw
            case rel => exact ⟨k + 1, _, _, rfl, rfl, by go_num, by omega, by rw [EA2.out, List.length_append]; simp; omega, by rw [EB2.out, List.length_append]; simp; omega, by rw [EA2.out, runes_app, List.length_append]; exact OA2.out, by rw [EB2.out, runes_app, List.length_append]; exact OB2.out, AP2.out, BW2.out⟩
            case measure => (simp [intOf] <;> omega)
        · by_cases h3 : x1 = 5
          · subst h3
            go_wp2_with fail
            generalize hW0 : wr.alloc (.cells #[.int .i64 5, .int .i32 x2, .int .i32 x3] 79) = W0
            have s1 : W0.cell? ⟨wr.heap.size, 1, none⟩ = some (.int .i32 x2) := by rw [← hW0, cell_of_row _ _ _ _ _ _ (heap_alloc_new _ _)]; rfl
            have s2 : W0.cell? ⟨wr.heap.size, 2, none⟩ = some (.int .i32 x3) := by rw [← hW0, cell_of_row _ _ _ _ _ _ (heap_alloc_new _ _)]; rfl
            have hz0 : W0.heap.size = wr.heap.size + 1 := by rw [← hW0]; simp
            have WA0 : Hid (W0.ownsRow w.heap.size 21 1 va (apA E k).length (runes (apA E k))) := Lib.hid (by rw [← hW0]; exact WA.out.alloc _)
            have WB0 : Hid (W0.ownsRow w.heap.size 21 1 vb (apB E k).length (runes (apB E k))) := Lib.hid (by rw [← hW0]; exact WB.out.alloc _)
            have BW0 : Hid (Below w.heap.size w W0) := Lib.hid (by rw [← hW0]; exact BW.out.alloc hsz _)
            have HZ0 := Lib.hid hz0
            have b7 : wr.heap.size < W0.heap.size := by omega
            have hsz0 : w.heap.size ≤ W0.heap.size := by omega
            have na : va.ownBlock ≠ some wr.heap.size := fun e => by have := (WA.out.lt _ e).2; omega
            have nb : vb.ownBlock ≠ some wr.heap.size := fun e => by have := (WB.out.lt _ e).2; omega
            have nab : vb.ownBlock = none ∨ vb.ownBlock ≠ va.ownBlock := by
              cases h : vb.ownBlock with
              | none => exact .inl rfl
              | some q => exact .inr fun e => AP.out q e.symm h
            have LA := Lib.hid fun q (e : va.ownBlock = some q) => WA.out.lt q e
            have LB := Lib.hid fun q (e : vb.ownBlock = some q) => WB.out.lt q e
            have NAB := Lib.hid nab; have NA := Lib.hid na; have NB := Lib.hid nb
            clear hW0 q1 q2 q3 hz0 nab na nb
            go_region_held3 (fun w2 => w2.cell? ⟨wr.heap.size, 1, none⟩ = some (.int .i32 x2) ∧ w2.cell? ⟨wr.heap.size, 2, none⟩ = some (.int .i32 x3))
              (first | (go_split_ands; exact ⟨by assumption, by assumption⟩) | go_keep)
              (first
                | ((go_split_ands; refine step_append_lies _ (by rfl) _ _ _ (by rfl) w.heap.size 21 j0 _ 1 4 Try.underlying22 J0.out J1.out J2.out J3.out rfl (by omega) va (apA E k).length (runes (apA E k)) (by rfl) (by first | exact (WA0.out.drew).alloc _ | exact ((WA0.out.drew).alloc _).alloc _) ⟨_, 0, none⟩ 2 2 [.int .i32 x2, .int .i32 x3] (by rfl) (by rfl) (World.news_of_block (cs := #[.int .i32 x2, .int .i32 x3]) (t := 21) (fr := (0, 0)) (by first | exact blk_a W0 _ | exact blk_b W0 _ _ | exact blk_c W0 _ _)) (by simp [Value.oneCell']) (by omega) (by unfold maxLen; omega) (by omega) (by simp; omega) _ rfl ?_; intro g1 cap1 w1 hown1 hgrow1 hat1 hlt1; have OA1 := Lib.hid hown1; have HG1 := Lib.hid hgrow1; have HAT1 := Lib.hid hat1; have OB1 := Lib.hid (World.ownsRow.kept (by first | exact (WB0.out.drew).alloc _ | exact ((WB0.out.drew).alloc _).alloc _) hgrow1 NAB.out); have BW1 := Lib.hid (Below.grown (by first | exact (BW0.out.drew).alloc hsz0 _ | exact ((BW0.out.drew).alloc hsz0 _).alloc (by simp; omega) _) hgrow1 (by simp; omega) (fun q e => (LA.out q e).1)); have c1 := (hgrow1.cell_far ⟨wr.heap.size, 1, none⟩ (by simp; omega) (Ne.symm NA.out)).trans (by assumption); have c2 := (hgrow1.cell_far ⟨wr.heap.size, 2, none⟩ (by simp; omega) (Ne.symm NA.out)).trans (by assumption); have b8 : wr.heap.size < w1.heap.size := Nat.lt_of_lt_of_le b7 (Nat.le_trans (by first | (simp; done) | (simp; omega)) hgrow1.size); have NE1 := Lib.hid (ne_own AP.out hat1 (fun e => by have := (LB.out g1 e).2; simp at *; omega)); clear hown1 hgrow1 hat1))
                | ((go_split_ands; refine step_append_lies _ (by rfl) _ _ _ (by rfl) w.heap.size 21 j0 _ 1 4 Try.underlying22 J0.out J1.out J2.out J3.out rfl (by omega) vb (apB E k).length (runes (apB E k)) (by rfl) (by first | exact OB1.out | exact OB1.out.alloc _) ⟨_, 0, none⟩ 2 2 [.int .i32 x3, .int .i32 x2] (by rfl) (by rfl) (World.news_of_block (cs := #[.int .i32 x3, .int .i32 x2]) (t := 21) (fr := (0, 0)) (by first | exact heap_alloc_new w1 _ | (refine (HG1.out.block _ (by first | (simp; done) | (simp; omega)) (fun e => by have := (LA.out _ e.symm).2; omega)).trans ?_; first | exact blk_b W0 _ _ | exact blk_c W0 _ _))) (by simp [Value.oneCell']) (by omega) (by unfold maxLen; omega) (by omega) (by have := BW1.out.size; simp; omega) _ rfl ?_; intro g2 cap2 w2 hown2 hgrow2 hat2 hlt2; have OB2 := Lib.hid hown2; have HAT2 := Lib.hid hat2; have OA2 := Lib.hid (World.ownsRow.kept (by first | exact OA1.out | exact OA1.out.alloc _) hgrow2 (.inr (fun e => NE1.out (by simpa [Value.ownBlock] using e.symm)))); have BW2 := Lib.hid (Below.grown (by first | exact BW1.out | exact BW1.out.alloc BW1.out.size _) hgrow2 (by have := BW1.out.size; simp; omega) (fun q e => (LB.out q e).1)); have c3 := (hgrow2.cell_far ⟨wr.heap.size, 1, none⟩ (by simp; omega) (Ne.symm NB.out)).trans (by assumption); have c4 := (hgrow2.cell_far ⟨wr.heap.size, 2, none⟩ (by simp; omega) (Ne.symm NB.out)).trans (by assumption); clear hown2 hgrow2 hat2)))
            all_goals
              have ap2 : Aparts (.slice (some ⟨g1, 0, none⟩) ((apA E k).length + 2) cap1) (.slice (some ⟨g2, 0, none⟩) ((apB E k).length + 2) cap2) := fun q e1 e2 => by
                have e3 : g1 = q := by simpa [Value.ownBlock] using e1
                have e4 : g2 = q := by simpa [Value.ownBlock] using e2
                rcases HAT2.out with h | h
                · exact NE1.out (by rw [h, e4, e3])
                · (try simp at h); omega
              have ea : apA E (k + 1) = apA E k ++ [x2, x3] := EA.out
              have eb : apB E (k + 1) = apB E k ++ [x3, x2] := EB.out
              have AP2 := Lib.hid ap2; have EA2 := Lib.hid ea; have EB2 := Lib.hid eb
              clear ap2 ea eb
              go_wp2_with fail
              go_roundw
              case rel => exact ⟨k + 1, _, _, rfl, rfl, by go_num, by omega, by rw [EA2.out, List.length_append]; simp; omega, by rw [EB2.out, List.length_append]; simp; omega, by rw [EA2.out, runes_app, List.length_append]; exact OA2.out, by rw [EB2.out, runes_app, List.length_append]; exact OB2.out, AP2.out, BW2.out⟩
              case measure => (simp [intOf] <;> omega)
          · by_cases h4 : x1 = 3
            · subst h4
              have nab : vb.ownBlock = none ∨ vb.ownBlock ≠ va.ownBlock := by
                cases h : vb.ownBlock with
                | none => exact .inl rfl
                | some q => exact .inr fun e => AP.out q e.symm h
              go_wp2_with (at_builtin
                           refine wpList_append_lies _ rfl _ _ _ rfl w.heap.size 21 j0 _ 1 4 Try.underlying22 J0.out J1.out J2.out J3.out rfl (by omega) va (apA E k).length (runes (apA E k)) rfl ((WA.out.alloc _).alloc _) ⟨wr.heap.size + 1, 0, none⟩ 1 1 [.int .i32 x2] rfl rfl (World.news_of_block (cs := #[.int .i32 x2]) (t := 21) (fr := (0, 0)) (by simpa using heap_alloc_new (wr.alloc (.cells #[.int .i64 3, .int .i32 x2, .int .i32 x3] 79)) (.cells #[.int .i32 x2] 21))) (by simp [Value.oneCell']) (by omega) (by unfold maxLen; omega) (by omega) (by simp; omega) (wr.heap.size + 1 + 1) (by simp) ?_
                           intro g1 cap1 w2 hown1 hgrow1 hat1 hlt1
                           have OA2 := Lib.hid hown1
                           have OB2 := Lib.hid (World.ownsRow.kept ((WB.out.alloc _).alloc _) hgrow1 nab)
                           have BW2 := Lib.hid (((BW.out.alloc hsz _).alloc (by simp; omega) _).grown hgrow1 (by simp; omega) (fun q e => (WA.out.lt q e).1))
                           clear hown1 hgrow1)
              have ap2 : Aparts (.slice (some ⟨g1, 0, none⟩) ((apA E k).length + 1) cap1) vb := fun q e1 e2 => by
                have e3 : g1 = q := by simpa [Value.ownBlock] using e1
                have l1 := (WB.out.lt q e2).2
                rcases hat1 with h | h
                · exact AP.out g1 h (by rw [e3]; exact e2)
                · omega
              have ea : apA E (k + 1) = apA E k ++ [x2] := EA.out
              have eb : apB E (k + 1) = apB E k := by rw [EB.out]; exact List.append_nil _
              have AP2 := Lib.hid ap2; have EA2 := Lib.hid ea; have EB2 := Lib.hid eb
              clear ap2 ea eb hat1
              go_wp2_with fail
              go_roundw
              case rel => exact ⟨k + 1, _, _, rfl, rfl, by go_num, by omega, by rw [EA2.out, List.length_append]; simp; omega, by rw [EB2.out]; omega, by rw [EA2.out, runes_app, List.length_append]; exact OA2.out, by rw [EB2.out]; exact OB2.out, AP2.out, BW2.out⟩
              case measure => (simp [intOf] <;> omega)
            · by_cases h5 : x1 = 4
              · subst h5
                have nba : va.ownBlock = none ∨ va.ownBlock ≠ vb.ownBlock := by
                  cases h : va.ownBlock with
                  | none => exact .inl rfl
                  | some q => exact .inr fun e => AP.out q h e.symm
                go_wp2_with (at_builtin
                             refine wpList_append_lies _ rfl _ _ _ rfl w.heap.size 21 j0 _ 1 4 Try.underlying22 J0.out J1.out J2.out J3.out rfl (by omega) vb (apB E k).length (runes (apB E k)) rfl ((WB.out.alloc _).alloc _) ⟨wr.heap.size + 1, 0, none⟩ 1 1 [.int .i32 x3] rfl rfl (World.news_of_block (cs := #[.int .i32 x3]) (t := 21) (fr := (0, 0)) (by simpa using heap_alloc_new (wr.alloc (.cells #[.int .i64 4, .int .i32 x2, .int .i32 x3] 79)) (.cells #[.int .i32 x3] 21))) (by simp [Value.oneCell']) (by omega) (by unfold maxLen; omega) (by omega) (by simp; omega) (wr.heap.size + 1 + 1) (by simp) ?_
                             intro g1 cap1 w2 hown1 hgrow1 hat1 hlt1
                             have OB2 := Lib.hid hown1
                             have OA2 := Lib.hid (World.ownsRow.kept ((WA.out.alloc _).alloc _) hgrow1 nba)
                             have BW2 := Lib.hid (((BW.out.alloc hsz _).alloc (by simp; omega) _).grown hgrow1 (by simp; omega) (fun q e => (WB.out.lt q e).1))
                             clear hown1 hgrow1)
                have ap2 : Aparts va (.slice (some ⟨g1, 0, none⟩) ((apB E k).length + 1) cap1) := fun q e1 e2 => by
                  have e3 : g1 = q := by simpa [Value.ownBlock] using e2
                  have l1 := (WA.out.lt q e1).2
                  rcases hat1 with h | h
                  · exact AP.out g1 (by rw [e3]; exact e1) h
                  · omega
                have ea : apA E (k + 1) = apA E k := by rw [EA.out]; exact List.append_nil _
                have eb : apB E (k + 1) = apB E k ++ [x3] := EB.out
                have AP2 := Lib.hid ap2; have EA2 := Lib.hid ea; have EB2 := Lib.hid eb
                clear ap2 ea eb hat1
                go_wp2_with fail
                go_roundw
                case rel => exact ⟨k + 1, _, _, rfl, rfl, by go_num, by omega, by rw [EA2.out]; omega, by rw [EB2.out, List.length_append]; simp; omega, by rw [EA2.out]; exact OA2.out, by rw [EB2.out, runes_app, List.length_append]; exact OB2.out, AP2.out, BW2.out⟩
                case measure => (simp [intOf] <;> omega)
              · have ea : apA E (k + 1) = apA E k := by rw [EA.out]; unfold stA; simp only [h1, h2, h3, h4, or_self, if_false]; exact List.append_nil _
                have eb : apB E (k + 1) = apB E k := by rw [EB.out]; unfold stB; simp only [h1, h2, h3, h5, or_self, if_false]; exact List.append_nil _
                have EA2 := Lib.hid ea; have EB2 := Lib.hid eb
                have BW2 := Lib.hid (BW.out.alloc hsz (.cells #[.int .i64 x1, .int .i32 x2, .int .i32 x3] 79))
                have OA2 := Lib.hid (WA.out.alloc (.cells #[.int .i64 x1, .int .i32 x2, .int .i32 x3] 79)); have OB2 := Lib.hid (WB.out.alloc (.cells #[.int .i64 x1, .int .i32 x2, .int .i32 x3] 79))
                clear ea eb
                go_wp2_with fail
                go_roundw
                case rel => exact ⟨k + 1, _, _, rfl, rfl, by go_num, by omega, by rw [EA2.out]; omega, by rw [EB2.out]; omega, by rw [EA2.out]; exact OA2.out, by rw [EB2.out]; exact OB2.out, AP.out, BW2.out⟩
                case measure => (simp [intOf] <;> omega)
    · obtain rfl : k = n := by omega
      have hnlt : ¬ (k : Int) < (k : Int) := by omega
      obtain ⟨A', c', rfl⟩ : ∃ A' c', va = .slice A' (apA E k).length c' := by
        rcases WA.out.2 with ⟨h1, h2⟩ | ⟨g', cap', cur', h1, _⟩
        · exact ⟨none, 0, by rw [h1, h2]⟩
        · exact ⟨_, _, h1⟩
      obtain ⟨B', d', rfl⟩ : ∃ A' c', vb = .slice A' (apB E k).length c' := by
        rcases WB.out.2 with ⟨h1, h2⟩ | ⟨g', cap', cur', h1, _⟩
        · exact ⟨none, 0, by rw [h1, h2]⟩
        · exact ⟨_, _, h1⟩
      go_wp2_with fail
      go_ret2
      exact ⟨_, _, _, _, rfl, WA.out, WB.out, BW.out⟩
end Go.Proofs.Ytkhdemaanakbeaa
