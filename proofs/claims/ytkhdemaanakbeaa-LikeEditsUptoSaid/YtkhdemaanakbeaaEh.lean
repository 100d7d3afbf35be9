/- How the one name becomes the other: walk. Conditions: the names and the rows are not too many. -/
import Derived.Test.YtkhdemaanakbeaaEc
import Derived.Test.YtkhdemaanakbeaaLo
namespace Go.Proofs.Ytkhdemaanakbeaa
open Go.RowKit Go.Pst
set_option maxRecDepth 20000
set_option linter.unusedSimpArgs false
set_option linter.unusedVariables false
section
variable (T : Nat → Nat → Nat) (cO cX cT : Nat) (p : Nat → Int × Int × Nat) (np : Nat) (fa fb : Nat → Int) (n m : Nat)
/-- Where the way back stands after so many steps, and what each step is. -/
def poK : Nat → Nat × Nat
  | 0 => (n, m)
  | k + 1 => prK (bkK T cO cX cT p np fa fb (poK k).1 (poK k).2) (poK k).1 (poK k).2
def seK (k : Nat) : Int × Int × Int := edK fa fb (bkK T cO cX cT p np fa fb (poK T cO cX cT p np fa fb n m k).1 (poK T cO cX cT p np fa fb n m k).2) (poK T cO cX cT p np fa fb n m k).1 (poK T cO cX cT p np fa fb n m k).2
end
theorem pr_less {T : Nat → Nat → Nat} {cO cX cT : Nat} {p : Nat → Int × Int × Nat} {np : Nat} {fa fb : Nat → Int} {i j : Nat} (h : 0 < i ∨ 0 < j) :
    (prK (bkK T cO cX cT p np fa fb i j) i j).1 ≤ i ∧ (prK (bkK T cO cX cT p np fa fb i j) i j).2 ≤ j ∧ (prK (bkK T cO cX cT p np fa fb i j) i j).1 + (prK (bkK T cO cX cT p np fa fb i j) i j).2 < i + j := by
  rcases bk_in (T := T) (cO := cO) (cX := cX) (cT := cT) (p := p) (np := np) (fa := fa) (fb := fb) h with ⟨e, h1⟩ | ⟨e, h1⟩ | ⟨e, h1⟩ | ⟨e, h1⟩ | ⟨e, h1⟩ <;> rw [e] <;> unfold prK <;> simp <;> omega
theorem infoEdit : (Try.prog.info? 79).map (fun i => (i.zero, i.size, i.bytes)) = some (some (.agg #[.int .i64 0, .int .i32 0, .int .i32 0]), 3, 16) := by kernel_rfl
/-- The way is at its end after K steps, and not before. -/
def EndK (P : Nat → Nat × Nat) (K : Nat) : Prop := P K = (0, 0) ∧ ∀ k, k < K → 0 < (P k).1 ∨ 0 < (P k).2
def EditsPost (P : Nat → Nat × Nat) (E : Nat → Int × Int × Int) (e : Int) (w : World) (en : Ending) (w' : World) : Prop :=
  Below w.heap.size w w' ∧ ((e ≠ 0 ∧ en = .returned (.tuple #[.slice none 0 0, .int .i64 e])) ∨
    (e = 0 ∧ ∃ K A c, K ≤ 2097152 ∧ en = .returned (.tuple #[.slice A K c, .int .i64 0]) ∧ EndK P K ∧ EdAt w' w'.heap.size A K fun t => E (K - 1 - t)))
set_option maxHeartbeats 4000000 in
theorem edits_any (cI cO cX cT n m c d np cp : Nat) (A B Ap : Option Addr) (p : Nat → Int × Int × Nat) (fa fb : Nat → Int) (w : World) (hA : NameAt w w.heap.size A n fa) (hB : NameAt w w.heap.size B m fb)
    (hn : n ≤ 1048576) (hm : m ≤ 1048576) (hnp : np ≤ 1048576) (hp : PairsAt w w.heap.size Ap np p) :
    Calls Try.prog 34 #[.agg #[.float .f64 cI, .float .f64 cO, .float .f64 cX, .float .f64 cT, .slice Ap np cp], .slice A n c, .slice B m d] w
      (EditsPost (poK (tabT cI cO cX cT p np fa fb) cO cX cT p np fa fb n m) (seK (tabT cI cO cX cT p np fa fb) cO cX cT p np fa fb n m) (errN p np n m) w) := by
  have hmay := fun w hp => may_any cI cO cX cT n m c d np cp A B Ap p w hn hm hnp hp
  have htab := fun w hA hB hp h1 h2 => table_any cI cO cX cT n m c d np cp A B Ap p fa fb (tabT cI cO cX cT p np fa fb) w hA hB hn hm h1 hp h2 (tabT_is ..)
  have hok := @err_ok p np n m
  generalize tabT cI cO cX cT p np fa fb = T at *
  generalize errN p np n m = e at *
  have HM := Lib.hid hmay; have HTB := Lib.hid htab; have HP := Lib.hid hp; have HA := Lib.hid hA; have HB := Lib.hid hB
  clear hmay htab hp hA hB
  by_cases he : e = 0
  · subst he
    obtain ⟨k1, k2, k3, -⟩ := hok rfl
    obtain ⟨i0, hi0, hz0, hz1, hz2⟩ := info_parts infoEdit
    have I0 := Lib.hid hi0; have I1 := Lib.hid hz0; have I2 := Lib.hid hz1; have I3 := Lib.hid hz2
    clear hi0 hz0 hz1 hz2
    have HR := Lib.hid k2; have HNP := Lib.hid k1
    clear hok k1 k2 k3 hnp
    have HPO : Hid (∀ k, poK T cO cX cT p np fa fb n m (k + 1) = prK (bkK T cO cX cT p np fa fb (poK T cO cX cT p np fa fb n m k).1 (poK T cO cX cT p np fa fb n m k).2) (poK T cO cX cT p np fa fb n m k).1 (poK T cO cX cT p np fa fb n m k).2) := Lib.hid fun _ => rfl
    have HSE : Hid (∀ k, seK T cO cX cT p np fa fb n m k = edK fa fb (bkK T cO cX cT p np fa fb (poK T cO cX cT p np fa fb n m k).1 (poK T cO cX cT p np fa fb n m k).2) (poK T cO cX cT p np fa fb n m k).1 (poK T cO cX cT p np fa fb n m k).2) := Lib.hid fun _ => rfl
    have HP0 : Hid (poK T cO cX cT p np fa fb n m 0 = (n, m)) := Lib.hid rfl
    generalize poK T cO cX cT p np fa fb n m = P at *
    generalize seK T cO cX cT p np fa fb n m = E at *
    go_enter Try.func34, Try.ntmps34
    go_wp2_with fail
    have O := (Reg.Own.nil w).alloc rfl #[.float .f64 cI, .float .f64 cO, .float .f64 cX, .float .f64 cT, .slice Ap np cp] 26
    obtain ⟨c0, f0, z0, y0, -, zz⟩ := O.rules
    have HO := Lib.hid O; clear O
    refine (HM.out _ ((HP.out.below HO.out.below (Nat.le_refl _)).more HO.out.size)).mono ?_
    rintro en wn ⟨rfl, hbn⟩
    have O := HO.out.keep hbn
    clear HO c0 f0 z0 y0 zz
    obtain ⟨c0, f0, z0, y0, -, zz⟩ := O.rules
    have HO := Lib.hid O; clear O
    clear hbn
    go_wp2_with fail
    refine (HTB.out _ ((HA.out.below HO.out.below (Nat.le_refl _)).more HO.out.size) ((HB.out.below HO.out.below (Nat.le_refl _)).more HO.out.size) ((HP.out.below HO.out.below (Nat.le_refl _)).more HO.out.size) HNP.out HR.out).mono ?_
    rintro en w2 ⟨Bk, R, rfl, hbt, g⟩
    have G := Lib.hid g.tab
    have O := HO.out.keep hbt
    clear HO c0 f0 z0 y0 zz
    obtain ⟨c0, f0, z0, y0, -, zz⟩ := O.rules
    have HO := Lib.hid O; clear O
    clear hbt g
    have B2 := Lib.hid HO.out.below
    have bx : ∀ k, w2.cell? ⟨w.heap.size, k, none⟩ = #[.float .f64 cI, .float .f64 cO, .float .f64 cX, .float .f64 cT, .slice Ap np cp][k]? := c0
    have BX := Lib.hid bx
    have zl := z0
    clear c0 f0 y0 zz bx z0 HO
    go_wp2_with fail
    go_loopw [10, 11, 12] (fun lv s t wr => ∃ (k i j : Nat) (v : Value), v = lv ∧ s = .int .i64 (i : Int) ∧ t = .int .i64 (j : Int) ∧ P k = (i, j) ∧ i ≤ n ∧ j ≤ m ∧ k + i + j ≤ n + m ∧ (∀ r, r < k → 0 < (P r).1 ∨ 0 < (P r).2) ∧ wr.ownsRow w2.heap.size 79 3 v k (flatE E k) ∧ Below w2.heap.size w2 wr) (fun _ s t _ => (intOf s).toNat + (intOf t).toNat)
    case atStart => exact ⟨0, n, m, _, rfl, rfl, rfl, HP0.out, by omega, by omega, by omega, fun r hr => by omega, World.ownsRow_nil _ _ _ _, Below.refl _ _⟩
    case round =>
      obtain ⟨k, i, j, v, rfl, rfl, rfl, hP, hi, hj, hk, hbef, hown, hbw⟩ := hrel
      have PP := Lib.hid hP; have BF := Lib.hid hbef; have OW := Lib.hid hown; have BW := Lib.hid hbw
      have hsz := hbw.size
      clear hP hbef hown hbw
      by_cases hij : 0 < i ∨ 0 < j
      · have gij : ((i : Int) > 0 ∨ (j : Int) > 0) := by omega
        by_cases hi0 : i = 0
        · subst hi0
          have hj0 : (j : Int) > 0 := by omega
          have hj1 : 0 < (j : Int) := hj0
          have HPN := Lib.hid (HPO.out k)
          have HSN := Lib.hid (HSE.out k)
          rw [PP.out] at HPN HSN
          have hless := pr_less (T := T) (cO := cO) (cX := cX) (cT := cT) (p := p) (np := np) (fa := fa) (fb := fb) hij
          have hbk := fun (w' : World) (hb : Below wr.heap.size wr w') =>
            back_any cI cO cX cT n m c d np cp (n + 1) 0 j A B Ap (some ⟨Bk, 0, none⟩) p fa fb T w' ((HA.out.below (B2.out.trans ((BW.out.trans (hb.mono hsz)).mono B2.out.size)) (Nat.le_refl _)).more (Nat.le_trans B2.out.size (Nat.le_trans hsz hb.size)))
              ((HB.out.below (B2.out.trans ((BW.out.trans (hb.mono hsz)).mono B2.out.size)) (Nat.le_refl _)).more (Nat.le_trans B2.out.size (Nat.le_trans hsz hb.size)))
              ((HP.out.below (B2.out.trans ((BW.out.trans (hb.mono hsz)).mono B2.out.size)) (Nat.le_refl _)).more (Nat.le_trans B2.out.size (Nat.le_trans hsz hb.size)))
              HNP.out HR.out hn hm ((G.out.below (BW.out.trans (hb.mono hsz)) (Nat.le_refl _)).more (Nat.le_trans hsz hb.size)) hi hj hij
          simp only [show ((0 : Nat) : Int) = 0 from rfl] at hbk
          have HBK := Lib.hid hbk
          clear hbk
          generalize hKK : bkK T cO cX cT p np fa fb 0 j = K at *
          clear hKK
          obtain ⟨ex, hex⟩ : ∃ x, x = edK fa fb K 0 j := ⟨_, rfl⟩
          obtain ⟨i', hi'⟩ : ∃ x, x = (prK K 0 j).1 := ⟨_, rfl⟩
          obtain ⟨j', hj'⟩ : ∃ x, x = (prK K 0 j).2 := ⟨_, rfl⟩
          have HPN' : Hid (P (k + 1) = (i', j')) := Lib.hid (by rw [HPN.out, hi', hj'])
          rw [← hex] at HBK HSN
          rw [← hi'] at HBK hless
          rw [← hj'] at HBK hless
          obtain ⟨l1, l2, l3⟩ := hless
          clear HPN hex hi' hj'
          obtain ⟨x1, x2, x3⟩ := ex
          have bx : ∀ q, wr.cell? ⟨w.heap.size, q, none⟩ = #[.float .f64 cI, .float .f64 cO, .float .f64 cX, .float .f64 cT, .slice Ap np cp][q]? := fun q => (BW.out.cell (p := ⟨w.heap.size, q, none⟩) zl).trans (BX.out q)
          have zl2 : w.heap.size < wr.heap.size := by omega
          have HIJ := Lib.hid hij
          clear hij gij
          go_wp2_with fail
          refine (HBK.out _ ((Below.refl wr.heap.size wr).alloc (Nat.le_refl _) (.cells #[.int .i64 0, .int .i32 0, .int .i32 0] 79))).mono ?_
          rintro en w3 ⟨rfl, hb3⟩
          have hO3 := ((Reg.Own.nil wr).alloc rfl #[.int .i64 0, .int .i32 0, .int .i32 0] 79).keep hb3
          have O := hO3
          obtain ⟨c0, f0, z0, y0, -, zz⟩ := O.rules
          have HO := Lib.hid O; clear O
          have OW3 := Lib.hid (own_below (OW.out.alloc (.cells #[.int .i64 0, .int .i32 0, .int .i32 0] 79)) hb3)
          clear hO3 hb3 bx
          have hne : v.ownBlock ≠ some wr.heap.size := fun e => by have := (OW.out.lt _ e).2; omega
          go_wp2_with (at_builtin
                       refine wpList_append_lies _ rfl _ _ _ rfl w2.heap.size 79 i0 _ 3 16 Try.underlying73 I0.out I1.out I2.out I3.out rfl (by omega) v k (flatE E k) rfl
                         ((ownsRow_setCell_other (ownsRow_setCell_other (ownsRow_setCell_other OW3.out (a := ⟨wr.heap.size, 0, none⟩) hne (.int .i64 x1)) (a := ⟨wr.heap.size, 1, none⟩) hne (.int .i32 x2)) (a := ⟨wr.heap.size, 2, none⟩) hne (.int .i32 x3)).alloc _)
                         ⟨w3.heap.size, 0, none⟩ 1 1 [.int .i64 x1, .int .i32 x2, .int .i32 x3] rfl rfl (World.news_of_block (cs := #[.int .i64 x1, .int .i32 x2, .int .i32 x3]) (t := 79) (fr := (0, 0)) (by first | exact heap_alloc_new _ _ | (have := heap_alloc_new (((w3.setCell ⟨wr.heap.size, 0, none⟩ (.int .i64 x1)).setCell ⟨wr.heap.size, 1, none⟩ (.int .i32 x2)).setCell ⟨wr.heap.size, 2, none⟩ (.int .i32 x3)) (.cells #[.int .i64 x1, .int .i32 x2, .int .i32 x3] 79); simpa using this))) (by simp [Value.oneCell']) (by omega) (by unfold maxLen; omega) (by omega) (by simp; omega) (w3.heap.size + 1) (by simp) ?_
                       intro g' cap' w4 hown4 hgrow hat hlt
                       have OW4 := Lib.hid hown4; have HGR := Lib.hid hgrow
                       clear hown4 hgrow hat hlt)
          have B3 := BW.out.trans (HO.out.below.mono hsz)
          have B4 := ((((B3.setCell (p := ⟨wr.heap.size, 0, none⟩) hsz (.int .i64 x1)).setCell (p := ⟨wr.heap.size, 1, none⟩) hsz (.int .i32 x2)).setCell (p := ⟨wr.heap.size, 2, none⟩) hsz (.int .i32 x3)).alloc (by simpa using B3.size) (.cells #[.int .i64 x1, .int .i32 x2, .int .i32 x3] 79)).grown HGR.out (by have := B3.size; simp; omega) (fun q e => (OW.out.lt q e).1)
          have hfl : flatE E (k + 1) = flatE E k ++ [.int .i64 x1, .int .i32 x2, .int .i32 x3] := by
            show flatE E k ++ [.int .i64 (E k).1, .int .i32 (E k).2.1, .int .i32 (E k).2.2] = _
            rw [HSN.out]
          have hbf : ∀ r, r < k + 1 → 0 < (P r).1 ∨ 0 < (P r).2 := fun r hr => by
            by_cases e : r = k
            · rw [e, PP.out]; exact HIJ.out
            · exact BF.out r (by omega)
          go_roundw
          case rel => exact ⟨k + 1, i', j', _, rfl, rfl, rfl, HPN'.out, by omega, by omega, by omega, hbf, by rw [hfl]; exact OW4.out, B4⟩
          case measure => (simp [intOf] <;> omega)
        · have hi1 : (i : Int) > 0 := by omega
          have hi2 : 0 < (i : Int) := hi1
          have HPN := Lib.hid (HPO.out k)
          have HSN := Lib.hid (HSE.out k)
          rw [PP.out] at HPN HSN
          have hless := pr_less (T := T) (cO := cO) (cX := cX) (cT := cT) (p := p) (np := np) (fa := fa) (fb := fb) hij
          have hbk := fun (w' : World) (hb : Below wr.heap.size wr w') =>
            back_any cI cO cX cT n m c d np cp (n + 1) i j A B Ap (some ⟨Bk, 0, none⟩) p fa fb T w' ((HA.out.below (B2.out.trans ((BW.out.trans (hb.mono hsz)).mono B2.out.size)) (Nat.le_refl _)).more (Nat.le_trans B2.out.size (Nat.le_trans hsz hb.size)))
              ((HB.out.below (B2.out.trans ((BW.out.trans (hb.mono hsz)).mono B2.out.size)) (Nat.le_refl _)).more (Nat.le_trans B2.out.size (Nat.le_trans hsz hb.size)))
              ((HP.out.below (B2.out.trans ((BW.out.trans (hb.mono hsz)).mono B2.out.size)) (Nat.le_refl _)).more (Nat.le_trans B2.out.size (Nat.le_trans hsz hb.size)))
              HNP.out HR.out hn hm ((G.out.below (BW.out.trans (hb.mono hsz)) (Nat.le_refl _)).more (Nat.le_trans hsz hb.size)) hi hj hij
          skip
          have HBK := Lib.hid hbk
          clear hbk
          generalize hKK : bkK T cO cX cT p np fa fb i j = K at *
          clear hKK
          obtain ⟨ex, hex⟩ : ∃ x, x = edK fa fb K i j := ⟨_, rfl⟩
          obtain ⟨i', hi'⟩ : ∃ x, x = (prK K i j).1 := ⟨_, rfl⟩
          obtain ⟨j', hj'⟩ : ∃ x, x = (prK K i j).2 := ⟨_, rfl⟩
          have HPN' : Hid (P (k + 1) = (i', j')) := Lib.hid (by rw [HPN.out, hi', hj'])
          rw [← hex] at HBK HSN
          rw [← hi'] at HBK hless
          rw [← hj'] at HBK hless
          obtain ⟨l1, l2, l3⟩ := hless
          clear HPN hex hi' hj'
          obtain ⟨x1, x2, x3⟩ := ex
          have bx : ∀ q, wr.cell? ⟨w.heap.size, q, none⟩ = #[.float .f64 cI, .float .f64 cO, .float .f64 cX, .float .f64 cT, .slice Ap np cp][q]? := fun q => (BW.out.cell (p := ⟨w.heap.size, q, none⟩) zl).trans (BX.out q)
          have zl2 : w.heap.size < wr.heap.size := by omega
          have HIJ := Lib.hid hij
          clear hij gij
          go_wp2_with fail
          refine (HBK.out _ ((Below.refl wr.heap.size wr).alloc (Nat.le_refl _) (.cells #[.int .i64 0, .int .i32 0, .int .i32 0] 79))).mono ?_
          rintro en w3 ⟨rfl, hb3⟩
          have hO3 := ((Reg.Own.nil wr).alloc rfl #[.int .i64 0, .int .i32 0, .int .i32 0] 79).keep hb3
          have O := hO3
          obtain ⟨c0, f0, z0, y0, -, zz⟩ := O.rules
          have HO := Lib.hid O; clear O
          have OW3 := Lib.hid (own_below (OW.out.alloc (.cells #[.int .i64 0, .int .i32 0, .int .i32 0] 79)) hb3)
          clear hO3 hb3 bx
          have hne : v.ownBlock ≠ some wr.heap.size := fun e => by have := (OW.out.lt _ e).2; omega
          go_wp2_with (at_builtin
                       refine wpList_append_lies _ rfl _ _ _ rfl w2.heap.size 79 i0 _ 3 16 Try.underlying73 I0.out I1.out I2.out I3.out rfl (by omega) v k (flatE E k) rfl
                         ((ownsRow_setCell_other (ownsRow_setCell_other (ownsRow_setCell_other OW3.out (a := ⟨wr.heap.size, 0, none⟩) hne (.int .i64 x1)) (a := ⟨wr.heap.size, 1, none⟩) hne (.int .i32 x2)) (a := ⟨wr.heap.size, 2, none⟩) hne (.int .i32 x3)).alloc _)
                         ⟨w3.heap.size, 0, none⟩ 1 1 [.int .i64 x1, .int .i32 x2, .int .i32 x3] rfl rfl (World.news_of_block (cs := #[.int .i64 x1, .int .i32 x2, .int .i32 x3]) (t := 79) (fr := (0, 0)) (by first | exact heap_alloc_new _ _ | (have := heap_alloc_new (((w3.setCell ⟨wr.heap.size, 0, none⟩ (.int .i64 x1)).setCell ⟨wr.heap.size, 1, none⟩ (.int .i32 x2)).setCell ⟨wr.heap.size, 2, none⟩ (.int .i32 x3)) (.cells #[.int .i64 x1, .int .i32 x2, .int .i32 x3] 79); simpa using this))) (by simp [Value.oneCell']) (by omega) (by unfold maxLen; omega) (by omega) (by simp; omega) (w3.heap.size + 1) (by simp) ?_
                       intro g' cap' w4 hown4 hgrow hat hlt
                       have OW4 := Lib.hid hown4; have HGR := Lib.hid hgrow
                       clear hown4 hgrow hat hlt)
          have B3 := BW.out.trans (HO.out.below.mono hsz)
          have B4 := ((((B3.setCell (p := ⟨wr.heap.size, 0, none⟩) hsz (.int .i64 x1)).setCell (p := ⟨wr.heap.size, 1, none⟩) hsz (.int .i32 x2)).setCell (p := ⟨wr.heap.size, 2, none⟩) hsz (.int .i32 x3)).alloc (by simpa using B3.size) (.cells #[.int .i64 x1, .int .i32 x2, .int .i32 x3] 79)).grown HGR.out (by have := B3.size; simp; omega) (fun q e => (OW.out.lt q e).1)
          have hfl : flatE E (k + 1) = flatE E k ++ [.int .i64 x1, .int .i32 x2, .int .i32 x3] := by
            show flatE E k ++ [.int .i64 (E k).1, .int .i32 (E k).2.1, .int .i32 (E k).2.2] = _
            rw [HSN.out]
          have hbf : ∀ r, r < k + 1 → 0 < (P r).1 ∨ 0 < (P r).2 := fun r hr => by
            by_cases e : r = k
            · rw [e, PP.out]; exact HIJ.out
            · exact BF.out r (by omega)
          go_roundw
          case rel => exact ⟨k + 1, i', j', _, rfl, rfl, rfl, HPN'.out, by omega, by omega, by omega, hbf, by rw [hfl]; exact OW4.out, B4⟩
          case measure => (simp [intOf] <;> omega)
      · obtain rfl : i = 0 := by omega
        obtain rfl : j = 0 := by omega
        have EK : Hid (EndK P k) := Lib.hid ⟨PP.out, BF.out⟩
        obtain ⟨A', c', rfl⟩ : ∃ A' c', v = .slice A' k c' := by
          rcases OW.out.2 with ⟨h1, h2⟩ | ⟨g', cap', cur', h1, _⟩
          · exact ⟨none, 0, by rw [h1, h2]⟩
          · exact ⟨_, _, h1⟩
        go_wp2_with fail
        refine (reverse_any w2.heap.size k c' A' E wr (by omega) OW.out hsz).mono ?_
        rintro en w5 ⟨⟨v5, rfl⟩, hb5, ho5⟩
        have B5 := Lib.hid (B2.out.trans ((BW.out.trans hb5).mono B2.out.size))
        have E5 := Lib.hid (ed_of_own ho5)
        clear hb5 ho5
        go_wp2_with fail
        go_ret2
        exact ⟨B5.out, .inr ⟨rfl, k, A', c', by omega, rfl, EK.out, E5.out⟩⟩
  · have he' : (e == 0) = false := by simpa using he
    have he2 : (e != 0) = true := by simp [he]
    have HE := Lib.hid he
    clear he hok HTB
    go_enter Try.func34, Try.ntmps34
    go_wp2_with fail
    have O := (Reg.Own.nil w).alloc rfl #[.float .f64 cI, .float .f64 cO, .float .f64 cX, .float .f64 cT, .slice Ap np cp] 26
    obtain ⟨c0, f0, z0, y0, -, zz⟩ := O.rules
    have HO := Lib.hid O; clear O
    refine (HM.out _ ((HP.out.below HO.out.below (Nat.le_refl _)).more HO.out.size)).mono ?_
    rintro en wn ⟨rfl, hbn⟩
    have O := HO.out.keep hbn
    clear HO c0 f0 z0 y0 zz
    obtain ⟨c0, f0, z0, y0, -, zz⟩ := O.rules
    have HO := Lib.hid O; clear O
    clear hbn
    go_wp2_with fail
    go_ret2
    exact ⟨HO.out.below, .inl ⟨HE.out, rfl⟩⟩
end Go.Proofs.Ytkhdemaanakbeaa
