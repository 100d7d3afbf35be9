/- Numbers and their negatives; two numbers; Two loses nothing: the law TotalCancels returns true for inputs that hold at most 1048576 data in all and leaves its list as it was. -/
import Derived.Test.YtjakjnmfndfehaaKd
import Derived.Test.YtjakjnmfndfehaaDe
import Derived.Test.YtjakjnmfndfehaaOq
namespace Go.Proofs.Ytjakjnmfndfehaa
open Go.RowKit Go.Pst Go.ChangeShapes Go.WideShapes Go.ChangeAt Go.Joins Go.Deep
set_option maxRecDepth 20000
set_option linter.unusedSimpArgs false
set_option linter.unusedVariables false
attribute [local go_sem] run_fneg run_fsub
theorem wpList_twinr {ops : Array Oper} {rest : List Oper} {o : Oper} {a : Act} {Q : Exit → Act → World → Prop} (w0 : World) (hgd : o.guard = none) (s x : Operand)
    (ho : o.op = .call { callee := .builtin .append, args := #[s, x], argTypes := #[22, 22] }) (hty : o.type = 22)
    (hs : a.eval s = .slice (some ⟨w0.heap.size, 0, none⟩) 0 0) (A : Option Addr) (n c : Nat) (f : Nat → Nat) (hx : a.eval x = .slice A n c) (hA : FlAt w0 w0.heap.size A n f) (hn : n ≤ 17592186044416)
    (hk : ∀ v w', w'.ownsRow w0.heap.size 24 1 v n (nums f n) → Below w0.heap.size w0 w' → wpList Try.prog ops Q rest (a.put o.dst v) w') :
    wpList Try.prog ops Q (o :: rest) a (w0.alloc (.cells #[] 24)) := by
  have hal := (Below.refl w0.heap.size w0).alloc (Nat.le_refl _) (.cells #[] 24)
  refine wpList_floats w0 _ hgd s x ho hty hal _ 0 f hs (World.ownsRow_made (e := 24) (size := 1) w0 #[] 0 (Nat.le_refl _) (by simp [maxLen]) rfl) A n c w0.heap.size f hx (hA.below hal (Nat.le_refl _)) (by omega) ?_
  intro v1 w1 ho1 hb1
  rw [Nat.zero_add] at ho1
  refine hk v1 w1 ?_ hb1
  have e : nums (joinR f 0 f) n = nums f n := by
    unfold nums
    refine List.map_congr_left fun k hk => ?_
    unfold joinR; rw [if_neg (by omega), Nat.sub_zero]
  rw [← e]; exact ho1
/-- The list and its negatives, so far. -/
def twN (f : Nat → Nat) (n : Nat) (i : Nat) : Nat := if i < n then f i else flipF (f (i - n))
theorem nums_tw (f : Nat → Nat) (n k : Nat) : nums (twN f n) (n + k) ++ [.float .f64 (flipF (f k))] = nums (twN f n) (n + (k + 1)) := by
  have := nums_next (twN f n) (n + k)
  rw [show twN f n (n + k) = flipF (f k) by unfold twN; rw [if_neg (by omega), show n + k - n = k by omega]] at this
  exact this
theorem nums_tw0 (f : Nat → Nat) (n : Nat) : nums f n = nums (twN f n) (n + 0) := by
  unfold nums
  refine List.map_congr_left fun k hk => ?_
  unfold twN; rw [if_pos (by simpa using hk)]
def finTo (f : Nat → Nat) : Nat → Bool
  | 0 => true
  | k + 1 => finTo f k && finF (f k)
theorem finTo_all {f : Nat → Nat} : ∀ n, finTo f n = true → ∀ i, i < n → finF (f i) = true
  | 0, _, i, hi => by omega
  | n + 1, h, i, hi => by
    have h' : (finTo f n && finF (f n)) = true := h
    rw [Bool.and_eq_true] at h'
    rcases Nat.lt_succ_iff_lt_or_eq.1 hi with g | g
    · exact finTo_all n h'.1 i g
    · rw [g]; exact h'.2
def selfV (b : Nat) : Nat := arV .sub b b
theorem self_eq {b y : Nat} (hb : b < 2 ^ 64) (h : cn y = cn (selfV b)) : feq .f64 y 0 = finF b := by
  unfold selfV at h
  by_cases hf : finB b
  · rw [self_fin hf] at h
    have hn : nan64 y = false := by rw [← cn_nan, h]; decide
    rw [cn_of y hn, cn_of 0 (by decide)] at h
    rw [h, (finF_iff hb).2 hf]; decide
  · rw [self_not hb hf] at h
    have hn : nan64 y = true := by rw [← cn_nan, h]; decide
    have : finF b = false := by
      cases hh : finF b
      · rfl
      · exact absurd ((finF_iff hb).1 hh) hf
    rw [this, feq64, hn]; rfl
theorem feq_nought {x : Nat} (h : finB x) (h0 : magN x = 0) : feq .f64 x 0 = true := by
  have hz : finB 0 := ⟨by omega, by decide, by decide⟩
  rw [feq_fin h hz, show valZ 0 = 0 by decide]
  rw [mag_abs] at h0
  exact decide_eq_true (by omega)
theorem exact_pair {f : Nat → Nat} (h0 : finB (f 0)) (h1 : finB (f 1)) (z0 : magN (f 0) = 0) (z1 : magN (f 1) = 0) : nan64 (exactV f 2) = false := by
  have aN : exN f 2 = false := by show ((false || nan64 (f 0)) || nan64 (f 1)) = false; rw [h0.2.1, h1.2.1]; rfl
  have aP : exP f 2 = false := by show ((false || eP (f 0)) || eP (f 1)) = false; unfold eP; rw [h0.2.2, h1.2.2]; simp
  have aL : exL f 2 = false := by show ((false || eL (f 0)) || eL (f 1)) = false; unfold eL; rw [h0.2.2, h1.2.2]; simp
  have aU : exSum f 2 = 0 := by
    show ((0 + eU (f 0)) + eU (f 1)) = _
    rw [eU_fin h0, eU_fin h1]
    rw [mag_abs] at z0 z1
    omega
  unfold exactV
  rw [aN, aP, aL, aU]
  unfold exV
  rw [Bool.false_and, Bool.or_false, if_neg Bool.false_ne_true, if_neg Bool.false_ne_true, if_neg Bool.false_ne_true, if_pos rfl]
  split <;> decide
theorem self_cn {b y : Nat} (w : World) (h : cn y = cn b) : cn (arU .sub w y y) = cn (selfV b) := arU_of2 h h
theorem self_ne_t {b y : Nat} (hb : b < 2 ^ 64) (hf : ¬ finB b) (h : cn y = cn (selfV b)) : fne .f64 y 0 = true := by
  rw [fne64]
  rw [self_eq hb h]
  cases hh : finF b
  · rfl
  · exact absurd ((finF_iff hb).1 hh) hf
theorem self_ne_f {b y : Nat} (hf : finB b) (h : cn y = cn (selfV b)) : fne .f64 y 0 = false := by
  rw [fne64]
  rw [self_eq hf.1 h, (finF_iff hf.1).2 hf]; rfl
def fourF (a b c d : Nat) (i : Nat) : Nat := if i = 0 then a else if i = 1 then b else if i = 2 then c else d
theorem flat_four (w : World) (t : TypeId) (a b c d : Nat) : FlAt (w.alloc (.cells #[.float .f64 a, .float .f64 b, .float .f64 c, .float .f64 d] t)) (w.heap.size + 1) (some ⟨w.heap.size, 0, none⟩) 4 (fourF a b c d) := fun _ =>
  ⟨w.heap.size, 0, rfl, by omega, fun i hi => by
    have := (Reg.Blk.new w #[.float .f64 a, .float .f64 b, .float .f64 c, .float .f64 d] t).cell i
    rw [Nat.zero_add, this]
    have : i = 0 ∨ i = 1 ∨ i = 2 ∨ i = 3 := by omega
    rcases this with rfl | rfl | rfl | rfl <;> rfl⟩
theorem wtrans {w0 w1 w8 : World} (h : Below w0.heap.size w0 w1) (h8 : Below w1.heap.size w1 w8) : Below w0.heap.size w0 w8 := h.trans (h8.mono h.size)
theorem self_u_t {b u : Nat} (hb : b < 2 ^ 64) (hf : ¬ finB b) (h : cn u = cn b) : ∀ w, fne .f64 (arU .sub w u u) 0 = true := fun w => self_ne_t hb hf (self_cn w h)
theorem self_u_f {b u : Nat} (hf : finB b) (h : cn u = cn b) : ∀ w, fne .f64 (arU .sub w u u) 0 = false := fun w => self_ne_f hf (self_cn w h)
theorem four_zero {x y u v : Nat} (TW : finB (twS x y) ∧ finB (twL x y) ∧ valZ (twS x y) + valZ (twL x y) = valZ x + valZ y ∧ valZ (twS x y) = RZ (valZ x + valZ y)) (hu : u = twS x y) (hv : v = twL x y) (fx : finB x) (fy : finB y) :
    (∀ j, j < 4 → fourF x y (flipF u) (flipF v) j < 2 ^ 64) ∧ (exactV (fourF x y (flipF u) (flipF v)) 4 = 0 ∨ exactV (fourF x y (flipF u) (flipF v)) 4 = 9223372036854775808) := by
  subst hu hv
  obtain ⟨t1, t2, t3, t4⟩ := TW
  have h1 := flip_fin t1
  have h2 := flip_fin t2
  have hall : ∀ i, i < 4 → finB (fourF x y (flipF (twS x y)) (flipF (twL x y)) i) := fun i hi => by
    have : i = 0 ∨ i = 1 ∨ i = 2 ∨ i = 3 := by omega
    rcases this with rfl | rfl | rfl | rfl
    · exact fx
    · exact fy
    · exact h1.1
    · exact h2.1
  refine ⟨fun j hj => (hall j hj).1, exact_four hall ?_⟩
  show valZ x + valZ y + valZ (flipF (twS x y)) + valZ (flipF (twL x y)) = 0
  rw [h1.2, h2.2]; omega
set_option maxHeartbeats 4000000 in
theorem totalCancels_walk (n c x y : Nat) (A : Option Addr) (f : Nat → Nat) (w : World) (hN : n ≤ 1048576) (hx : x < 2 ^ 64) (hy : y < 2 ^ 64) (hf : ∀ j, j < n → f j < 2 ^ 64) (hA : FlAt w w.heap.size A n f) :
    Calls Try.prog 6 #[.slice A n c, .float .f64 x, .float .f64 y] w fun en w' => en = .returned (.bool true) ∧ Below w.heap.size w w' := by
  obtain ⟨j0, hj0, hy0, hy1, hy2⟩ := info_parts infoNum
  have J0 := Lib.hid hj0; have J1 := Lib.hid hy0; have J2 := Lib.hid hy1; have J3 := Lib.hid hy2
  clear hj0 hy0 hy1 hy2
  have HA := Lib.hid hA; have HF := Lib.hid hf
  clear hA hf
  go_enter Try.func6, Try.ntmps6
  go_wp2_with (at_builtin
               refine wpList_twinr w rfl _ _ rfl rfl rfl A n c f rfl HA.out (by omega) ?_
               intro v1 w1 ho1 hb1
               have O1 := Lib.hid ho1
               have B1 := Lib.hid hb1
               clear ho1 hb1)
  go_loopw [7, 8, 9] (fun lv b t wr => ∃ (k : Nat) (v : Value), t = .int .i64 (k : Int) ∧ k ≤ n ∧ v = lv ∧ b = .bool (decide ((n : Int) ≤ 1000) && finTo f k) ∧ wr.ownsRow w.heap.size 24 1 v (n + k) (nums (twN f n) (n + k)) ∧ Below w.heap.size w wr) (fun _ _ t _ => n - (intOf t).toNat)
  case atStart => exact ⟨0, _, rfl, by omega, rfl, by simp [finTo], by rw [← nums_tw0]; exact O1.out, B1.out⟩
  case round =>
    obtain ⟨k, v, rfl, hk, rfl, rfl, hown, hbw⟩ := hrel
    have OD := Lib.hid hown; have BW := Lib.hid hbw; have SZ := hbw.size
    clear hown hbw
    by_cases hkn : k < n
    · have h3 : (k : Int) < (n : Int) := by omega
      have h00 : (0 : Int) ≤ (k : Int) := by omega
      obtain ⟨g, off, rfl, hg, hc⟩ := HA.out (by omega)
      have q : wr.cell? ⟨g, off + k, none⟩ = some (.float .f64 (f k)) := (BW.out.cell (p := ⟨g, off + k, none⟩) hg).trans (hc k hkn)
      have NX := Lib.hid (nums_tw f n k)
      have HC := Lib.hid hc
      have hgl : g < wr.heap.size := Nat.lt_of_lt_of_le hg SZ
      clear hc
      go_wp2_with (at_builtin
                   refine wpList_append_lies _ rfl _ _ _ rfl w.heap.size 24 j0 _ 1 8 Try.underlying22 J0.out J1.out J2.out J3.out rfl (by omega) v (n + k) (nums (twN f n) (n + k)) rfl (OD.out.alloc _) ⟨wr.heap.size, 0, none⟩ 1 1 [.float .f64 (flipF (f k))] rfl rfl (World.news_of_block (heap_alloc_new _ _)) (by simp [Value.oneCell']) (by omega) (by unfold maxLen; omega) (by omega) (by simp; omega) (wr.heap.size + 1) (by simp) ?_
                   intro g' cap' w1 hown1 hgrow hat hlt
                   have ORN := Lib.hid hown1
                   have HGR := Lib.hid hgrow
                   clear hown1 hgrow hat)
      have hal := (Below.refl wr.heap.size wr).alloc (Nat.le_refl _) (.cells #[.float .f64 (flipF (f k))] 24)
      have hrl := OD.out.lt
      have BWN := Lib.hid ((BW.out.trans (hal.mono BW.out.size)).grown HGR.out (by simp; omega) (fun q e => by have h2 := (hrl _ e).1; omega))
      clear hal hrl q
      have q : w1.cell? ⟨g, off + k, none⟩ = some (.float .f64 (f k)) := (BWN.out.cell (p := ⟨g, off + k, none⟩) hg).trans (HC.out k hkn)
      have hgl1 : g < w1.heap.size := Nat.lt_of_lt_of_le hg BWN.out.size
      cases hfin : (decide ((n : Int) ≤ 1000) && finTo f k)
      · go_wp2_with fail
        refine Reg.wp_region_rd (by kernel_rfl) (by kernel_rfl) (fun _ => ?_)
        repeat (refine Reg.rd_op rfl ?_; apply Exists.intro; apply And.intro; (intro w' hb; have hc := Reg.rd_cells hb; clear hb; go_simp; (try go_bits); first | done | (with_reducible exact rfl)); (intro _ a' ha'; simp only [Act.put, List.setIfInBounds_toArray, List.set_cons_zero, List.set_cons_succ] at ha'; subst ha'))
        repeat (refine Reg.rd_skip rfl ?_; intro a' ha'; simp only [Act.put, List.setIfInBounds_toArray, List.set_cons_zero, List.set_cons_succ] at ha'; subst ha')
        repeat (refine Reg.rd_op rfl ?_; apply Exists.intro; apply And.intro; (intro w' hb; have hc := Reg.rd_cells hb; clear hb; go_simp; (try go_bits); first | done | (with_reducible exact rfl)); (intro _ a' ha'; simp only [Act.put, List.setIfInBounds_toArray, List.set_cons_zero, List.set_cons_succ] at ha'; subst ha'))
        refine Reg.rd_end (fun wz hb => ?_)
        have BWZ := Lib.hid (BWN.out.trans (hb.mono BWN.out.size))
        have OZ := Lib.hid (own_below ORN.out hb)
        clear hb
        have hfs : (decide ((n : Int) ≤ 1000) && finTo f (k + 1)) = false := by
          show (decide ((n : Int) ≤ 1000) && (finTo f k && finF (f k))) = false
          rw [← Bool.and_assoc, hfin, Bool.false_and]
        have HFS := Lib.hid hfs
        clear hfin hfs
        go_wp2_with fail
        go_roundw
        case rel => exact ⟨k + 1, _, by go_num, by omega, rfl, by rw [HFS.out], by rw [← NX.out]; exact OZ.out, BWZ.out⟩
        case measure => (simp [intOf] <;> omega)
      · go_wp2_with fail
        refine Reg.wp_region_rn [50] (by kernel_rfl) (by kernel_rfl) (fun _ => ?_)
        repeat (refine Reg.op0e Reg.rn_class (fun _ _ => trivial) rfl rfl rfl ?_; apply Exists.intro; apply And.intro; (intro w' hb; have hc := Reg.rd_cells hb; clear hb; go_simp; (try go_bits); first | done | (with_reducible exact rfl)); (intro a' ha'; simp only [Act.put, List.setIfInBounds_toArray, List.set_cons_zero, List.set_cons_succ] at ha'; subst ha'))
        refine Reg.op0 Reg.rn_class (fun _ _ => trivial) rfl rfl rfl ⟨.float .f64 ((selfV (f k))), ?_, ?_⟩
        · intro w' hb; have hc := Reg.rd_cells hb; clear hb; go_simp; exact ⟨wIf_refl _ _, .inr ⟨rfl, veq_of_cn (arU_of2 rfl rfl)⟩⟩
        intro a' ha'; simp only [Act.put, List.setIfInBounds_toArray, List.set_cons_zero, List.set_cons_succ] at ha'; subst ha'
        refine Reg.op1 Reg.rn_class (fun _ _ => trivial) rfl rfl 50 _ rfl rfl ⟨.bool (finF (f k)), ?_, ?_⟩
        · intro u1 g1 w' hb; obtain ⟨y1, rfl, f1⟩ := cn_of_veq g1; clear g1 hb; have F1 := Lib.hid f1; clear f1; simp only [Act.put, List.setIfInBounds_toArray, List.set_cons_zero, List.set_cons_succ]; go_simp; have f1 := F1.out; exact ⟨Below.refl _ _, .inl (congrArg Value.bool (self_eq (HF.out k hkn) f1))⟩
        intro a' ha'; simp only [Act.put, List.setIfInBounds_toArray, List.set_cons_zero, List.set_cons_succ] at ha'; subst ha'
        repeat (refine Reg.op0e Reg.rn_class (fun _ _ => trivial) rfl rfl rfl ?_; apply Exists.intro; apply And.intro; (intro w' hb; have hc := Reg.rd_cells hb; clear hb; go_simp; (try go_bits); first | done | (with_reducible exact rfl)); (intro a' ha'; simp only [Act.put, List.setIfInBounds_toArray, List.set_cons_zero, List.set_cons_succ] at ha'; subst ha'))
        refine Reg.rn_endv [(50, .float .f64 (selfV (f k)))] rfl (fun wz hb => ?_)
        refine ⟨rfl, fun u hu => ?_⟩
        obtain ⟨z50, rfl, k50⟩ := cn_of_veq hu; clear hu
        simp only [Reg.endv, Act.put, List.setIfInBounds_toArray, List.set_cons_zero, List.set_cons_succ]
        have BWZ := Lib.hid (BWN.out.trans (hb.mono BWN.out.size))
        have OZ := Lib.hid (own_below ORN.out hb)
        clear hb
        have hfs : (decide ((n : Int) ≤ 1000) && finTo f (k + 1)) = finF (f k) := by
          show (decide ((n : Int) ≤ 1000) && (finTo f k && finF (f k))) = _
          rw [← Bool.and_assoc, hfin, Bool.true_and]
        have HFS := Lib.hid hfs
        clear hfin hfs
        go_wp2_with fail
        go_roundw
        case rel => exact ⟨k + 1, _, by go_num, by omega, rfl, by rw [HFS.out], by rw [← NX.out]; exact OZ.out, BWZ.out⟩
        case measure => (simp [intOf] <;> omega)
    · obtain rfl : k = n := by omega
      clear hkn
      have hnlt : ¬ (k : Int) < (k : Int) := by omega
      have fR : ∀ j, j < 2 → (fun i => if i = 0 then x else y) j < 2 ^ 64 := fun j hj => by
        show (if j = 0 then x else y) < 2 ^ 64
        split <;> assumption
      have FR := Lib.hid fR
      clear fR
      cases hfin : (decide ((k : Int) ≤ 1000) && finTo f k)
      · go_wp2_with fail
        refine (exact_any 2 2 _ (fun i => if i = 0 then x else y) _ ((flat_two wr _ x y).more (by simp)) (by omega) FR.out).mono ?_
        rintro en w4 ⟨rfl, hb4⟩
        have B4 := Lib.hid ((BW.out.alloc BW.out.size (.cells #[.float .f64 x, .float .f64 y] 24)).trans (hb4.mono (BW.out.alloc BW.out.size _).size))
        clear hb4
        go_wp2_with fail
        refine (sum_any 2 2 _ (fun i => if i = 0 then x else y) _ ((flat_two w4 _ x y).more (by simp)) (by omega)).mono ?_
        rintro en w5 ⟨S, rfl, hS, hb5⟩
        have B5 := Lib.hid ((B4.out.alloc B4.out.size (.cells #[.float .f64 x, .float .f64 y] 24)).trans (hb5.mono (B4.out.alloc B4.out.size _).size))
        have HS := Lib.hid hS
        clear hb5 hS
        go_wp2_with fail
        by_cases hzz : finB x ∧ finB y ∧ magN x = 0 ∧ magN y = 0
        · obtain ⟨hx1, hy1, hx0, hy0⟩ := hzz
          have hE := exact_pair (f := fun i => if i = 0 then x else y) hx1 hy1 hx0 hy0
          have hfx : feq .f64 x 0 = true := feq_nought hx1 hx0
          have hfy : feq .f64 y 0 = true := feq_nought hy1 hy0
          generalize exactV (fun i => if i = 0 then x else y) 2 = E at hE ⊢
          refine (psame_num E S w5 hE).mono ?_
          rintro en w99 ⟨rfl, rfl⟩
          cases hES : ((E : Int) == (S : Int))
          · go_wp2_with fail
            refine (two_any x y w5).mono ?_
            rintro en w6 ⟨u, v, rfl, hu, hv, hb6⟩
            have B6 := Lib.hid (B5.out.trans (hb6.mono B5.out.size))
            have hu' : cn u = cn (twS x y) := hu.trans (cn_arV _ _ _).symm
            have hv' : cn v = cn (twL x y) := hv.trans (cn_arV _ _ _).symm
            have hsl : twS x y < 2 ^ 64 := arV_lt _ _ _
            have hll : twL x y < 2 ^ 64 := arV_lt _ _ _
            clear hu hv hb6
            by_cases hS : finB (twS x y)
            · obtain ⟨fx, fy⟩ := add_fin_both hx hy hS
              have q1 := self_u_f hS hu'
              have q3 := self_u_f fx rfl
              have q4 := self_u_f fy rfl
              by_cases hT : finB (twL x y)
              · have q2 := self_u_f hT hv'
                cases hgx : fgt .f64 (sizV x) 9205357638345293823
                · cases hgy : fgt .f64 (sizV y) 9205357638345293823
                  · have hux : u = twS x y := by rw [cn_of _ hS.2.1] at hu'; exact cn_eq hu' hS.2.1
                    have hvx : v = twL x y := by rw [cn_of _ hT.2.1] at hv'; exact cn_eq hv' hT.2.1
                    have HUX := Lib.hid hux; have HVX := Lib.hid hvx
                    have TW := Lib.hid (two_exact fx fy (siz_small fx hgx) (siz_small fy hgy))
                    clear hu' hv' hux hvx
                    go_wp2_with fail
                    refine (size_any x _).mono ?_
                    rintro en w97 ⟨rfl, rfl⟩
                    go_wp2_with fail
                    refine (size_any y _).mono ?_
                    rintro en w97 ⟨rfl, rfl⟩
                    go_wp2_with fail
                    generalize hwz : wIf (arD .sub y y).isNone _ = wz
                    have hsz : wz.heap.size = w6.heap.size := by rw [← hwz]; simp only [wIf_size]
                    have BZ : Below w.heap.size w wz := by rw [← hwz]; repeat' first | exact B6.out | refine wIf_below _ _ ?_
                    have hF : FlAt (wz.alloc (.cells #[.float .f64 x, .float .f64 y, .float .f64 (flipF u), .float .f64 (flipF v)] 24)) (w6.heap.size + 1) (some ⟨w6.heap.size, 0, none⟩) 4 (fourF x y (flipF u) (flipF v)) := by
                      rw [← hsz]; exact flat_four wz _ _ _ _ _
                    have hZ := four_zero TW.out HUX.out HVX.out fx fy
                    obtain ⟨hlt, hZ⟩ := hZ
                    have hz0 : feq .f64 (exactV (fourF x y (flipF u) (flipF v)) 4) 0 = true := by rcases hZ with h | h <;> rw [h] <;> decide
                    have hEX := exact_any 4 4 _ _ _ (hF.more (B' := (wz.alloc (.cells #[.float .f64 x, .float .f64 y, .float .f64 (flipF u), .float .f64 (flipF v)] 24)).heap.size) (by simp; omega)) (by omega) hlt
                    generalize exactV (fourF x y (flipF u) (flipF v)) 4 = Z at hz0 hEX
                    refine hEX.mono ?_
                    rintro en w9 ⟨rfl, hb9⟩
                    have B9 := Lib.hid (wtrans (w0 := w) (BZ.alloc BZ.size _) hb9)
                    clear hEX hlt hZ hF BZ hsz hwz hb9
                    go_wp2_with fail
                    refine (awake_any _).mono ?_
                    rintro en w8 ⟨rfl, hb8⟩
                    have B8 := Lib.hid (wtrans (w0 := w) B9.out hb8)
                    clear hb8
                    go_wp2_with fail
                    go_ret
                    exact ⟨rfl, B8.out⟩
                  · clear hu' hv'
                    go_wp2_with fail
                    refine (size_any x _).mono ?_
                    rintro en w97 ⟨rfl, rfl⟩
                    go_wp2_with fail
                    refine (size_any y _).mono ?_
                    rintro en w97 ⟨rfl, rfl⟩
                    go_wp2_with fail
                    refine (awake_any _).mono ?_
                    rintro en w8 ⟨rfl, hb8⟩
                    have B8 := Lib.hid (wtrans (w0 := w) (by repeat' first | exact B6.out | refine wIf_below _ _ ?_) hb8)
                    clear hb8
                    go_wp2_with fail
                    go_ret
                    exact ⟨rfl, B8.out⟩
                · clear hu' hv'
                  go_wp2_with fail
                  refine (size_any x _).mono ?_
                  rintro en w97 ⟨rfl, rfl⟩
                  go_wp2_with fail
                  refine (awake_any _).mono ?_
                  rintro en w8 ⟨rfl, hb8⟩
                  have B8 := Lib.hid (wtrans (w0 := w) (by repeat' first | exact B6.out | refine wIf_below _ _ ?_) hb8)
                  clear hb8
                  go_wp2_with fail
                  go_ret
                  exact ⟨rfl, B8.out⟩
              · have q2 := self_u_t hll hT hv'
                clear hu' hv'
                go_wp2_with fail
                refine (awake_any _).mono ?_
                rintro en w8 ⟨rfl, hb8⟩
                have B8 := Lib.hid (wtrans (w0 := w) (by repeat' first | exact B6.out | refine wIf_below _ _ ?_) hb8)
                clear hb8
                go_wp2_with fail
                go_ret
                exact ⟨rfl, B8.out⟩
            · have q1 := self_u_t hsl hS hu'
              clear hu' hv'
              go_wp2_with fail
              refine (awake_any _).mono ?_
              rintro en w8 ⟨rfl, hb8⟩
              have B8 := Lib.hid (wtrans (w0 := w) (by repeat' first | exact B6.out | refine wIf_below _ _ ?_) hb8)
              clear hb8
              go_wp2_with fail
              go_ret
              exact ⟨rfl, B8.out⟩
          · go_wp2_with fail
            refine (two_any x y w5).mono ?_
            rintro en w6 ⟨u, v, rfl, hu, hv, hb6⟩
            have B6 := Lib.hid (B5.out.trans (hb6.mono B5.out.size))
            have hu' : cn u = cn (twS x y) := hu.trans (cn_arV _ _ _).symm
            have hv' : cn v = cn (twL x y) := hv.trans (cn_arV _ _ _).symm
            have hsl : twS x y < 2 ^ 64 := arV_lt _ _ _
            have hll : twL x y < 2 ^ 64 := arV_lt _ _ _
            clear hu hv hb6
            by_cases hS : finB (twS x y)
            · obtain ⟨fx, fy⟩ := add_fin_both hx hy hS
              have q1 := self_u_f hS hu'
              have q3 := self_u_f fx rfl
              have q4 := self_u_f fy rfl
              by_cases hT : finB (twL x y)
              · have q2 := self_u_f hT hv'
                cases hgx : fgt .f64 (sizV x) 9205357638345293823
                · cases hgy : fgt .f64 (sizV y) 9205357638345293823
                  · have hux : u = twS x y := by rw [cn_of _ hS.2.1] at hu'; exact cn_eq hu' hS.2.1
                    have hvx : v = twL x y := by rw [cn_of _ hT.2.1] at hv'; exact cn_eq hv' hT.2.1
                    have HUX := Lib.hid hux; have HVX := Lib.hid hvx
                    have TW := Lib.hid (two_exact fx fy (siz_small fx hgx) (siz_small fy hgy))
                    clear hu' hv' hux hvx
                    go_wp2_with fail
                    refine (size_any x _).mono ?_
                    rintro en w97 ⟨rfl, rfl⟩
                    go_wp2_with fail
                    refine (size_any y _).mono ?_
                    rintro en w97 ⟨rfl, rfl⟩
                    go_wp2_with fail
                    generalize hwz : wIf (arD .sub y y).isNone _ = wz
                    have hsz : wz.heap.size = w6.heap.size := by rw [← hwz]; simp only [wIf_size]
                    have BZ : Below w.heap.size w wz := by rw [← hwz]; repeat' first | exact B6.out | refine wIf_below _ _ ?_
                    have hF : FlAt (wz.alloc (.cells #[.float .f64 x, .float .f64 y, .float .f64 (flipF u), .float .f64 (flipF v)] 24)) (w6.heap.size + 1) (some ⟨w6.heap.size, 0, none⟩) 4 (fourF x y (flipF u) (flipF v)) := by
                      rw [← hsz]; exact flat_four wz _ _ _ _ _
                    have hZ := four_zero TW.out HUX.out HVX.out fx fy
                    obtain ⟨hlt, hZ⟩ := hZ
                    have hz0 : feq .f64 (exactV (fourF x y (flipF u) (flipF v)) 4) 0 = true := by rcases hZ with h | h <;> rw [h] <;> decide
                    have hEX := exact_any 4 4 _ _ _ (hF.more (B' := (wz.alloc (.cells #[.float .f64 x, .float .f64 y, .float .f64 (flipF u), .float .f64 (flipF v)] 24)).heap.size) (by simp; omega)) (by omega) hlt
                    generalize exactV (fourF x y (flipF u) (flipF v)) 4 = Z at hz0 hEX
                    refine hEX.mono ?_
                    rintro en w9 ⟨rfl, hb9⟩
                    have B9 := Lib.hid (wtrans (w0 := w) (BZ.alloc BZ.size _) hb9)
                    clear hEX hlt hZ hF BZ hsz hwz hb9
                    go_wp2_with fail
                    refine (awake_any _).mono ?_
                    rintro en w8 ⟨rfl, hb8⟩
                    have B8 := Lib.hid (wtrans (w0 := w) B9.out hb8)
                    clear hb8
                    go_wp2_with fail
                    go_ret
                    exact ⟨rfl, B8.out⟩
                  · clear hu' hv'
                    go_wp2_with fail
                    refine (size_any x _).mono ?_
                    rintro en w97 ⟨rfl, rfl⟩
                    go_wp2_with fail
                    refine (size_any y _).mono ?_
                    rintro en w97 ⟨rfl, rfl⟩
                    go_wp2_with fail
                    refine (awake_any _).mono ?_
                    rintro en w8 ⟨rfl, hb8⟩
                    have B8 := Lib.hid (wtrans (w0 := w) (by repeat' first | exact B6.out | refine wIf_below _ _ ?_) hb8)
                    clear hb8
                    go_wp2_with fail
                    go_ret
                    exact ⟨rfl, B8.out⟩
                · clear hu' hv'
                  go_wp2_with fail
                  refine (size_any x _).mono ?_
                  rintro en w97 ⟨rfl, rfl⟩
                  go_wp2_with fail
                  refine (awake_any _).mono ?_
                  rintro en w8 ⟨rfl, hb8⟩
                  have B8 := Lib.hid (wtrans (w0 := w) (by repeat' first | exact B6.out | refine wIf_below _ _ ?_) hb8)
                  clear hb8
                  go_wp2_with fail
                  go_ret
                  exact ⟨rfl, B8.out⟩
              · have q2 := self_u_t hll hT hv'
                clear hu' hv'
                go_wp2_with fail
                refine (awake_any _).mono ?_
                rintro en w8 ⟨rfl, hb8⟩
                have B8 := Lib.hid (wtrans (w0 := w) (by repeat' first | exact B6.out | refine wIf_below _ _ ?_) hb8)
                clear hb8
                go_wp2_with fail
                go_ret
                exact ⟨rfl, B8.out⟩
            · have q1 := self_u_t hsl hS hu'
              clear hu' hv'
              go_wp2_with fail
              refine (awake_any _).mono ?_
              rintro en w8 ⟨rfl, hb8⟩
              have B8 := Lib.hid (wtrans (w0 := w) (by repeat' first | exact B6.out | refine wIf_below _ _ ?_) hb8)
              clear hb8
              go_wp2_with fail
              go_ret
              exact ⟨rfl, B8.out⟩
        · have hE := exact_two_all (f := fun i => if i = 0 then x else y) hx hy hzz
          refine (psame_any _ S w5 (hE.trans HS.out.symm)).mono ?_
          rintro en w99 ⟨rfl, rfl⟩
          clear hE hzz
          go_wp2_with fail
          refine (two_any x y w5).mono ?_
          rintro en w6 ⟨u, v, rfl, hu, hv, hb6⟩
          have B6 := Lib.hid (B5.out.trans (hb6.mono B5.out.size))
          have hu' : cn u = cn (twS x y) := hu.trans (cn_arV _ _ _).symm
          have hv' : cn v = cn (twL x y) := hv.trans (cn_arV _ _ _).symm
          have hsl : twS x y < 2 ^ 64 := arV_lt _ _ _
          have hll : twL x y < 2 ^ 64 := arV_lt _ _ _
          clear hu hv hb6
          by_cases hS : finB (twS x y)
          · obtain ⟨fx, fy⟩ := add_fin_both hx hy hS
            have q1 := self_u_f hS hu'
            have q3 := self_u_f fx rfl
            have q4 := self_u_f fy rfl
            by_cases hT : finB (twL x y)
            · have q2 := self_u_f hT hv'
              cases hgx : fgt .f64 (sizV x) 9205357638345293823
              · cases hgy : fgt .f64 (sizV y) 9205357638345293823
                · have hux : u = twS x y := by rw [cn_of _ hS.2.1] at hu'; exact cn_eq hu' hS.2.1
                  have hvx : v = twL x y := by rw [cn_of _ hT.2.1] at hv'; exact cn_eq hv' hT.2.1
                  have HUX := Lib.hid hux; have HVX := Lib.hid hvx
                  have TW := Lib.hid (two_exact fx fy (siz_small fx hgx) (siz_small fy hgy))
                  clear hu' hv' hux hvx
                  go_wp2_with fail
                  refine (size_any x _).mono ?_
                  rintro en w97 ⟨rfl, rfl⟩
                  go_wp2_with fail
                  refine (size_any y _).mono ?_
                  rintro en w97 ⟨rfl, rfl⟩
                  go_wp2_with fail
                  generalize hwz : wIf (arD .sub y y).isNone _ = wz
                  have hsz : wz.heap.size = w6.heap.size := by rw [← hwz]; simp only [wIf_size]
                  have BZ : Below w.heap.size w wz := by rw [← hwz]; repeat' first | exact B6.out | refine wIf_below _ _ ?_
                  have hF : FlAt (wz.alloc (.cells #[.float .f64 x, .float .f64 y, .float .f64 (flipF u), .float .f64 (flipF v)] 24)) (w6.heap.size + 1) (some ⟨w6.heap.size, 0, none⟩) 4 (fourF x y (flipF u) (flipF v)) := by
                    rw [← hsz]; exact flat_four wz _ _ _ _ _
                  have hZ := four_zero TW.out HUX.out HVX.out fx fy
                  obtain ⟨hlt, hZ⟩ := hZ
                  have hz0 : feq .f64 (exactV (fourF x y (flipF u) (flipF v)) 4) 0 = true := by rcases hZ with h | h <;> rw [h] <;> decide
                  have hEX := exact_any 4 4 _ _ _ (hF.more (B' := (wz.alloc (.cells #[.float .f64 x, .float .f64 y, .float .f64 (flipF u), .float .f64 (flipF v)] 24)).heap.size) (by simp; omega)) (by omega) hlt
                  generalize exactV (fourF x y (flipF u) (flipF v)) 4 = Z at hz0 hEX
                  refine hEX.mono ?_
                  rintro en w9 ⟨rfl, hb9⟩
                  have B9 := Lib.hid (wtrans (w0 := w) (BZ.alloc BZ.size _) hb9)
                  clear hEX hlt hZ hF BZ hsz hwz hb9
                  go_wp2_with fail
                  refine (awake_any _).mono ?_
                  rintro en w8 ⟨rfl, hb8⟩
                  have B8 := Lib.hid (wtrans (w0 := w) B9.out hb8)
                  clear hb8
                  go_wp2_with fail
                  go_ret
                  exact ⟨rfl, B8.out⟩
                · clear hu' hv'
                  go_wp2_with fail
                  refine (size_any x _).mono ?_
                  rintro en w97 ⟨rfl, rfl⟩
                  go_wp2_with fail
                  refine (size_any y _).mono ?_
                  rintro en w97 ⟨rfl, rfl⟩
                  go_wp2_with fail
                  refine (awake_any _).mono ?_
                  rintro en w8 ⟨rfl, hb8⟩
                  have B8 := Lib.hid (wtrans (w0 := w) (by repeat' first | exact B6.out | refine wIf_below _ _ ?_) hb8)
                  clear hb8
                  go_wp2_with fail
                  go_ret
                  exact ⟨rfl, B8.out⟩
              · clear hu' hv'
                go_wp2_with fail
                refine (size_any x _).mono ?_
                rintro en w97 ⟨rfl, rfl⟩
                go_wp2_with fail
                refine (awake_any _).mono ?_
                rintro en w8 ⟨rfl, hb8⟩
                have B8 := Lib.hid (wtrans (w0 := w) (by repeat' first | exact B6.out | refine wIf_below _ _ ?_) hb8)
                clear hb8
                go_wp2_with fail
                go_ret
                exact ⟨rfl, B8.out⟩
            · have q2 := self_u_t hll hT hv'
              clear hu' hv'
              go_wp2_with fail
              refine (awake_any _).mono ?_
              rintro en w8 ⟨rfl, hb8⟩
              have B8 := Lib.hid (wtrans (w0 := w) (by repeat' first | exact B6.out | refine wIf_below _ _ ?_) hb8)
              clear hb8
              go_wp2_with fail
              go_ret
              exact ⟨rfl, B8.out⟩
          · have q1 := self_u_t hsl hS hu'
            clear hu' hv'
            go_wp2_with fail
            refine (awake_any _).mono ?_
            rintro en w8 ⟨rfl, hb8⟩
            have B8 := Lib.hid (wtrans (w0 := w) (by repeat' first | exact B6.out | refine wIf_below _ _ ?_) hb8)
            clear hb8
            go_wp2_with fail
            go_ret
            exact ⟨rfl, B8.out⟩
      · rw [Bool.and_eq_true] at hfin
        have h10 : k ≤ 1000 := by have := of_decide_eq_true hfin.1; omega
        have hcz := exact_cancel (f := f) (g := twN f k) (n := k) (fun i hi => (finF_iff (HF.out i hi)).1 (finTo_all k hfin.2 i hi)) (fun i hi => by unfold twN; rw [if_pos hi]) (fun i hi => by unfold twN; rw [if_neg (by omega), show k + i - k = i by omega])
        obtain ⟨VB, vc, rfl, fv⟩ := flat_of OD.out
        have FV := Lib.hid fv
        have hgf : ∀ j, j < k + k → twN f k j < 2 ^ 64 := fun j hj => by
          unfold twN; split
          · exact HF.out _ (by omega)
          · exact (flip_parts (HF.out _ (by omega))).2.2
        have HGF := Lib.hid hgf
        obtain ⟨Z, hZ⟩ : ∃ Z, Z = exactV (twN f k) (k + k) := ⟨_, rfl⟩
        rw [← hZ] at hcz
        have hz0 : fne .f64 Z 0 = false := by rcases hcz with h | h <;> rw [h] <;> decide
        have HZ := Lib.hid hZ
        clear fv hgf hfin hcz hZ
        go_wp2_with fail
        refine (exact_any (k + k) vc _ (twN f k) wr (FV.out) (by omega) HGF.out).mono ?_
        rintro en w3 ⟨rfl, hb3⟩
        rw [← HZ.out]
        have B3 := Lib.hid (BW.out.trans (hb3.mono BW.out.size))
        clear hb3
        go_wp2_with fail
        refine (exact_any 2 2 _ (fun i => if i = 0 then x else y) _ ((flat_two w3 _ x y).more (by simp)) (by omega) FR.out).mono ?_
        rintro en w4 ⟨rfl, hb4⟩
        have B4 := Lib.hid ((B3.out.alloc B3.out.size (.cells #[.float .f64 x, .float .f64 y] 24)).trans (hb4.mono (B3.out.alloc B3.out.size _).size))
        clear hb4
        go_wp2_with fail
        refine (sum_any 2 2 _ (fun i => if i = 0 then x else y) _ ((flat_two w4 _ x y).more (by simp)) (by omega)).mono ?_
        rintro en w5 ⟨S, rfl, hS, hb5⟩
        have B5 := Lib.hid ((B4.out.alloc B4.out.size (.cells #[.float .f64 x, .float .f64 y] 24)).trans (hb5.mono (B4.out.alloc B4.out.size _).size))
        have HS := Lib.hid hS
        clear hb5 hS
        go_wp2_with fail
        by_cases hzz : finB x ∧ finB y ∧ magN x = 0 ∧ magN y = 0
        · obtain ⟨hx1, hy1, hx0, hy0⟩ := hzz
          have hE := exact_pair (f := fun i => if i = 0 then x else y) hx1 hy1 hx0 hy0
          have hfx : feq .f64 x 0 = true := feq_nought hx1 hx0
          have hfy : feq .f64 y 0 = true := feq_nought hy1 hy0
          generalize exactV (fun i => if i = 0 then x else y) 2 = E at hE ⊢
          refine (psame_num E S w5 hE).mono ?_
          rintro en w99 ⟨rfl, rfl⟩
          cases hES : ((E : Int) == (S : Int))
          · go_wp2_with fail
            refine (two_any x y w5).mono ?_
            rintro en w6 ⟨u, v, rfl, hu, hv, hb6⟩
            have B6 := Lib.hid (B5.out.trans (hb6.mono B5.out.size))
            have hu' : cn u = cn (twS x y) := hu.trans (cn_arV _ _ _).symm
            have hv' : cn v = cn (twL x y) := hv.trans (cn_arV _ _ _).symm
            have hsl : twS x y < 2 ^ 64 := arV_lt _ _ _
            have hll : twL x y < 2 ^ 64 := arV_lt _ _ _
            clear hu hv hb6
            by_cases hS : finB (twS x y)
            · obtain ⟨fx, fy⟩ := add_fin_both hx hy hS
              have q1 := self_u_f hS hu'
              have q3 := self_u_f fx rfl
              have q4 := self_u_f fy rfl
              by_cases hT : finB (twL x y)
              · have q2 := self_u_f hT hv'
                cases hgx : fgt .f64 (sizV x) 9205357638345293823
                · cases hgy : fgt .f64 (sizV y) 9205357638345293823
                  · have hux : u = twS x y := by rw [cn_of _ hS.2.1] at hu'; exact cn_eq hu' hS.2.1
                    have hvx : v = twL x y := by rw [cn_of _ hT.2.1] at hv'; exact cn_eq hv' hT.2.1
                    have HUX := Lib.hid hux; have HVX := Lib.hid hvx
                    have TW := Lib.hid (two_exact fx fy (siz_small fx hgx) (siz_small fy hgy))
                    clear hu' hv' hux hvx
                    go_wp2_with fail
                    refine (size_any x _).mono ?_
                    rintro en w97 ⟨rfl, rfl⟩
                    go_wp2_with fail
                    refine (size_any y _).mono ?_
                    rintro en w97 ⟨rfl, rfl⟩
                    go_wp2_with fail
                    generalize hwz : wIf (arD .sub y y).isNone _ = wz
                    have hsz : wz.heap.size = w6.heap.size := by rw [← hwz]; simp only [wIf_size]
                    have BZ : Below w.heap.size w wz := by rw [← hwz]; repeat' first | exact B6.out | refine wIf_below _ _ ?_
                    have hF : FlAt (wz.alloc (.cells #[.float .f64 x, .float .f64 y, .float .f64 (flipF u), .float .f64 (flipF v)] 24)) (w6.heap.size + 1) (some ⟨w6.heap.size, 0, none⟩) 4 (fourF x y (flipF u) (flipF v)) := by
                      rw [← hsz]; exact flat_four wz _ _ _ _ _
                    have hZ := four_zero TW.out HUX.out HVX.out fx fy
                    obtain ⟨hlt, hZ⟩ := hZ
                    have hz0 : feq .f64 (exactV (fourF x y (flipF u) (flipF v)) 4) 0 = true := by rcases hZ with h | h <;> rw [h] <;> decide
                    have hEX := exact_any 4 4 _ _ _ (hF.more (B' := (wz.alloc (.cells #[.float .f64 x, .float .f64 y, .float .f64 (flipF u), .float .f64 (flipF v)] 24)).heap.size) (by simp; omega)) (by omega) hlt
                    generalize exactV (fourF x y (flipF u) (flipF v)) 4 = Z at hz0 hEX
                    refine hEX.mono ?_
                    rintro en w9 ⟨rfl, hb9⟩
                    have B9 := Lib.hid (wtrans (w0 := w) (BZ.alloc BZ.size _) hb9)
                    clear hEX hlt hZ hF BZ hsz hwz hb9
                    go_wp2_with fail
                    refine (awake_any _).mono ?_
                    rintro en w8 ⟨rfl, hb8⟩
                    have B8 := Lib.hid (wtrans (w0 := w) B9.out hb8)
                    clear hb8
                    go_wp2_with fail
                    go_ret
                    exact ⟨rfl, B8.out⟩
                  · clear hu' hv'
                    go_wp2_with fail
                    refine (size_any x _).mono ?_
                    rintro en w97 ⟨rfl, rfl⟩
                    go_wp2_with fail
                    refine (size_any y _).mono ?_
                    rintro en w97 ⟨rfl, rfl⟩
                    go_wp2_with fail
                    refine (awake_any _).mono ?_
                    rintro en w8 ⟨rfl, hb8⟩
                    have B8 := Lib.hid (wtrans (w0 := w) (by repeat' first | exact B6.out | refine wIf_below _ _ ?_) hb8)
                    clear hb8
                    go_wp2_with fail
                    go_ret
                    exact ⟨rfl, B8.out⟩
                · clear hu' hv'
                  go_wp2_with fail
                  refine (size_any x _).mono ?_
                  rintro en w97 ⟨rfl, rfl⟩
                  go_wp2_with fail
                  refine (awake_any _).mono ?_
                  rintro en w8 ⟨rfl, hb8⟩
                  have B8 := Lib.hid (wtrans (w0 := w) (by repeat' first | exact B6.out | refine wIf_below _ _ ?_) hb8)
                  clear hb8
                  go_wp2_with fail
                  go_ret
                  exact ⟨rfl, B8.out⟩
              · have q2 := self_u_t hll hT hv'
                clear hu' hv'
                go_wp2_with fail
                refine (awake_any _).mono ?_
                rintro en w8 ⟨rfl, hb8⟩
                have B8 := Lib.hid (wtrans (w0 := w) (by repeat' first | exact B6.out | refine wIf_below _ _ ?_) hb8)
                clear hb8
                go_wp2_with fail
                go_ret
                exact ⟨rfl, B8.out⟩
            · have q1 := self_u_t hsl hS hu'
              clear hu' hv'
              go_wp2_with fail
              refine (awake_any _).mono ?_
              rintro en w8 ⟨rfl, hb8⟩
              have B8 := Lib.hid (wtrans (w0 := w) (by repeat' first | exact B6.out | refine wIf_below _ _ ?_) hb8)
              clear hb8
              go_wp2_with fail
              go_ret
              exact ⟨rfl, B8.out⟩
          · go_wp2_with fail
            refine (two_any x y w5).mono ?_
            rintro en w6 ⟨u, v, rfl, hu, hv, hb6⟩
            have B6 := Lib.hid (B5.out.trans (hb6.mono B5.out.size))
            have hu' : cn u = cn (twS x y) := hu.trans (cn_arV _ _ _).symm
            have hv' : cn v = cn (twL x y) := hv.trans (cn_arV _ _ _).symm
            have hsl : twS x y < 2 ^ 64 := arV_lt _ _ _
            have hll : twL x y < 2 ^ 64 := arV_lt _ _ _
            clear hu hv hb6
            by_cases hS : finB (twS x y)
            · obtain ⟨fx, fy⟩ := add_fin_both hx hy hS
              have q1 := self_u_f hS hu'
              have q3 := self_u_f fx rfl
              have q4 := self_u_f fy rfl
              by_cases hT : finB (twL x y)
              · have q2 := self_u_f hT hv'
                cases hgx : fgt .f64 (sizV x) 9205357638345293823
                · cases hgy : fgt .f64 (sizV y) 9205357638345293823
                  · have hux : u = twS x y := by rw [cn_of _ hS.2.1] at hu'; exact cn_eq hu' hS.2.1
                    have hvx : v = twL x y := by rw [cn_of _ hT.2.1] at hv'; exact cn_eq hv' hT.2.1
                    have HUX := Lib.hid hux; have HVX := Lib.hid hvx
                    have TW := Lib.hid (two_exact fx fy (siz_small fx hgx) (siz_small fy hgy))
                    clear hu' hv' hux hvx
                    go_wp2_with fail
                    refine (size_any x _).mono ?_
                    rintro en w97 ⟨rfl, rfl⟩
                    go_wp2_with fail
                    refine (size_any y _).mono ?_
                    rintro en w97 ⟨rfl, rfl⟩
                    go_wp2_with fail
                    generalize hwz : wIf (arD .sub y y).isNone _ = wz
                    have hsz : wz.heap.size = w6.heap.size := by rw [← hwz]; simp only [wIf_size]
                    have BZ : Below w.heap.size w wz := by rw [← hwz]; repeat' first | exact B6.out | refine wIf_below _ _ ?_
                    have hF : FlAt (wz.alloc (.cells #[.float .f64 x, .float .f64 y, .float .f64 (flipF u), .float .f64 (flipF v)] 24)) (w6.heap.size + 1) (some ⟨w6.heap.size, 0, none⟩) 4 (fourF x y (flipF u) (flipF v)) := by
                      rw [← hsz]; exact flat_four wz _ _ _ _ _
                    have hZ := four_zero TW.out HUX.out HVX.out fx fy
                    obtain ⟨hlt, hZ⟩ := hZ
                    have hz0 : feq .f64 (exactV (fourF x y (flipF u) (flipF v)) 4) 0 = true := by rcases hZ with h | h <;> rw [h] <;> decide
                    have hEX := exact_any 4 4 _ _ _ (hF.more (B' := (wz.alloc (.cells #[.float .f64 x, .float .f64 y, .float .f64 (flipF u), .float .f64 (flipF v)] 24)).heap.size) (by simp; omega)) (by omega) hlt
                    generalize exactV (fourF x y (flipF u) (flipF v)) 4 = Z at hz0 hEX
                    refine hEX.mono ?_
                    rintro en w9 ⟨rfl, hb9⟩
                    have B9 := Lib.hid (wtrans (w0 := w) (BZ.alloc BZ.size _) hb9)
                    clear hEX hlt hZ hF BZ hsz hwz hb9
                    go_wp2_with fail
                    refine (awake_any _).mono ?_
                    rintro en w8 ⟨rfl, hb8⟩
                    have B8 := Lib.hid (wtrans (w0 := w) B9.out hb8)
                    clear hb8
                    go_wp2_with fail
                    go_ret
                    exact ⟨rfl, B8.out⟩
                  · clear hu' hv'
                    go_wp2_with fail
                    refine (size_any x _).mono ?_
                    rintro en w97 ⟨rfl, rfl⟩
                    go_wp2_with fail
                    refine (size_any y _).mono ?_
                    rintro en w97 ⟨rfl, rfl⟩
                    go_wp2_with fail
                    refine (awake_any _).mono ?_
                    rintro en w8 ⟨rfl, hb8⟩
                    have B8 := Lib.hid (wtrans (w0 := w) (by repeat' first | exact B6.out | refine wIf_below _ _ ?_) hb8)
                    clear hb8
                    go_wp2_with fail
                    go_ret
                    exact ⟨rfl, B8.out⟩
                · clear hu' hv'
                  go_wp2_with fail
                  refine (size_any x _).mono ?_
                  rintro en w97 ⟨rfl, rfl⟩
                  go_wp2_with fail
                  refine (awake_any _).mono ?_
                  rintro en w8 ⟨rfl, hb8⟩
                  have B8 := Lib.hid (wtrans (w0 := w) (by repeat' first | exact B6.out | refine wIf_below _ _ ?_) hb8)
                  clear hb8
                  go_wp2_with fail
                  go_ret
                  exact ⟨rfl, B8.out⟩
              · have q2 := self_u_t hll hT hv'
                clear hu' hv'
                go_wp2_with fail
                refine (awake_any _).mono ?_
                rintro en w8 ⟨rfl, hb8⟩
                have B8 := Lib.hid (wtrans (w0 := w) (by repeat' first | exact B6.out | refine wIf_below _ _ ?_) hb8)
                clear hb8
                go_wp2_with fail
                go_ret
                exact ⟨rfl, B8.out⟩
            · have q1 := self_u_t hsl hS hu'
              clear hu' hv'
              go_wp2_with fail
              refine (awake_any _).mono ?_
              rintro en w8 ⟨rfl, hb8⟩
              have B8 := Lib.hid (wtrans (w0 := w) (by repeat' first | exact B6.out | refine wIf_below _ _ ?_) hb8)
              clear hb8
              go_wp2_with fail
              go_ret
              exact ⟨rfl, B8.out⟩
        · have hE := exact_two_all (f := fun i => if i = 0 then x else y) hx hy hzz
          refine (psame_any _ S w5 (hE.trans HS.out.symm)).mono ?_
          rintro en w99 ⟨rfl, rfl⟩
          clear hE hzz
          go_wp2_with fail
          refine (two_any x y w5).mono ?_
          rintro en w6 ⟨u, v, rfl, hu, hv, hb6⟩
          have B6 := Lib.hid (B5.out.trans (hb6.mono B5.out.size))
          have hu' : cn u = cn (twS x y) := hu.trans (cn_arV _ _ _).symm
          have hv' : cn v = cn (twL x y) := hv.trans (cn_arV _ _ _).symm
          have hsl : twS x y < 2 ^ 64 := arV_lt _ _ _
          have hll : twL x y < 2 ^ 64 := arV_lt _ _ _
          clear hu hv hb6
          by_cases hS : finB (twS x y)
          · obtain ⟨fx, fy⟩ := add_fin_both hx hy hS
            have q1 := self_u_f hS hu'
            have q3 := self_u_f fx rfl
            have q4 := self_u_f fy rfl
            by_cases hT : finB (twL x y)
            · have q2 := self_u_f hT hv'
              cases hgx : fgt .f64 (sizV x) 9205357638345293823
              · cases hgy : fgt .f64 (sizV y) 9205357638345293823
                · have hux : u = twS x y := by rw [cn_of _ hS.2.1] at hu'; exact cn_eq hu' hS.2.1
                  have hvx : v = twL x y := by rw [cn_of _ hT.2.1] at hv'; exact cn_eq hv' hT.2.1
                  have HUX := Lib.hid hux; have HVX := Lib.hid hvx
                  have TW := Lib.hid (two_exact fx fy (siz_small fx hgx) (siz_small fy hgy))
                  clear hu' hv' hux hvx
                  go_wp2_with fail
                  refine (size_any x _).mono ?_
                  rintro en w97 ⟨rfl, rfl⟩
                  go_wp2_with fail
                  refine (size_any y _).mono ?_
                  rintro en w97 ⟨rfl, rfl⟩
                  go_wp2_with fail
                  generalize hwz : wIf (arD .sub y y).isNone _ = wz
                  have hsz : wz.heap.size = w6.heap.size := by rw [← hwz]; simp only [wIf_size]
                  have BZ : Below w.heap.size w wz := by rw [← hwz]; repeat' first | exact B6.out | refine wIf_below _ _ ?_
                  have hF : FlAt (wz.alloc (.cells #[.float .f64 x, .float .f64 y, .float .f64 (flipF u), .float .f64 (flipF v)] 24)) (w6.heap.size + 1) (some ⟨w6.heap.size, 0, none⟩) 4 (fourF x y (flipF u) (flipF v)) := by
                    rw [← hsz]; exact flat_four wz _ _ _ _ _
                  have hZ := four_zero TW.out HUX.out HVX.out fx fy
                  obtain ⟨hlt, hZ⟩ := hZ
                  have hz0 : feq .f64 (exactV (fourF x y (flipF u) (flipF v)) 4) 0 = true := by rcases hZ with h | h <;> rw [h] <;> decide
                  have hEX := exact_any 4 4 _ _ _ (hF.more (B' := (wz.alloc (.cells #[.float .f64 x, .float .f64 y, .float .f64 (flipF u), .float .f64 (flipF v)] 24)).heap.size) (by simp; omega)) (by omega) hlt
                  generalize exactV (fourF x y (flipF u) (flipF v)) 4 = Z at hz0 hEX
                  refine hEX.mono ?_
                  rintro en w9 ⟨rfl, hb9⟩
                  have B9 := Lib.hid (wtrans (w0 := w) (BZ.alloc BZ.size _) hb9)
                  clear hEX hlt hZ hF BZ hsz hwz hb9
                  go_wp2_with fail
                  refine (awake_any _).mono ?_
                  rintro en w8 ⟨rfl, hb8⟩
                  have B8 := Lib.hid (wtrans (w0 := w) B9.out hb8)
                  clear hb8
                  go_wp2_with fail
                  go_ret
                  exact ⟨rfl, B8.out⟩
                · clear hu' hv'
                  go_wp2_with fail
                  refine (size_any x _).mono ?_
                  rintro en w97 ⟨rfl, rfl⟩
                  go_wp2_with fail
                  refine (size_any y _).mono ?_
                  rintro en w97 ⟨rfl, rfl⟩
                  go_wp2_with fail
                  refine (awake_any _).mono ?_
                  rintro en w8 ⟨rfl, hb8⟩
                  have B8 := Lib.hid (wtrans (w0 := w) (by repeat' first | exact B6.out | refine wIf_below _ _ ?_) hb8)
                  clear hb8
                  go_wp2_with fail
                  go_ret
                  exact ⟨rfl, B8.out⟩
              · clear hu' hv'
                go_wp2_with fail
                refine (size_any x _).mono ?_
                rintro en w97 ⟨rfl, rfl⟩
                go_wp2_with fail
                refine (awake_any _).mono ?_
                rintro en w8 ⟨rfl, hb8⟩
                have B8 := Lib.hid (wtrans (w0 := w) (by repeat' first | exact B6.out | refine wIf_below _ _ ?_) hb8)
                clear hb8
                go_wp2_with fail
                go_ret
                exact ⟨rfl, B8.out⟩
            · have q2 := self_u_t hll hT hv'
              clear hu' hv'
              go_wp2_with fail
              refine (awake_any _).mono ?_
              rintro en w8 ⟨rfl, hb8⟩
              have B8 := Lib.hid (wtrans (w0 := w) (by repeat' first | exact B6.out | refine wIf_below _ _ ?_) hb8)
              clear hb8
              go_wp2_with fail
              go_ret
              exact ⟨rfl, B8.out⟩
          · have q1 := self_u_t hsl hS hu'
            clear hu' hv'
            go_wp2_with fail
            refine (awake_any _).mono ?_
            rintro en w8 ⟨rfl, hb8⟩
            have B8 := Lib.hid (wtrans (w0 := w) (by repeat' first | exact B6.out | refine wIf_below _ _ ?_) hb8)
            clear hb8
            go_wp2_with fail
            go_ret
            exact ⟨rfl, B8.out⟩
theorem bulk_one {H : Type} (d : DataW H) : 1 ≤ Rows.uptoBulk d := by
  cases d with
  | lit l => cases l <;> simp [Rows.uptoBulk]
  | nil => simp [Rows.uptoBulk]
  | ptr d => simp [Rows.uptoBulk]
  | slice elems spare => simp [Rows.uptoBulk]
  | agg parts => simp [Rows.uptoBulk]
  | iface t d => simp [Rows.uptoBulk]
  | map entries => simp [Rows.uptoBulk]
  | held h => simp [Rows.uptoBulk]
theorem bulk_length {H : Type} (l : List (DataW H)) : l.length ≤ Rows.uptoBulkAll l := by
  induction l with
  | nil => simp [Rows.uptoBulkAll]
  | cons x r ih => have := bulk_one x; simp only [Rows.uptoBulkAll, List.length_cons]; omega
theorem bulk_list {H : Type} {d : DataW H} {n : Nat} (h : SliceD d n) : n ≤ Rows.uptoBulk d := by
  rcases h with rfl | ⟨es, sp, rfl, rfl⟩
  · omega
  · have h1 := bulk_length es
    simp only [Rows.uptoBulk]
    omega
theorem upto_bound {H : Type} {l : List (DataW H)} (hk : Rows.uptoSmall H l = true) : Rows.uptoBulkAll l ≤ 1048576 := of_decide_eq_true hk
theorem totalCancels_own : ownKnob Try.prog.godebug = none := by kernel_rfl
theorem totalCancels_laid : laidOutB Try.prog = true := by kernel_rfl
theorem totalCancels_types : ∀ t ∈ ([22, 24, 24] : List TypeId), Try.prog.readableRec t = true ∧ t < Try.prog.types.size := by
  simp only [List.mem_cons, List.not_mem_nil, or_false, forall_eq_or_imp, forall_eq]
  exact ⟨⟨by kernel_rfl, of_decide_eq_true (by kernel_rfl)⟩, ⟨by kernel_rfl, of_decide_eq_true (by kernel_rfl)⟩, ⟨by kernel_rfl, of_decide_eq_true (by kernel_rfl)⟩⟩
set_option maxRecDepth 100000 in
theorem totalCancels_lifted (os : Os) (started : os.Started) (H : Type) (enc : TypeId × Value → H) (F : Stop.Interp) :
    ReturnsInHanded {} Try.checked os 6 .any ((Rows.OpenSpec.upto Rows.totalCancelsSpec).pre6 enc Try.prog Try.f6 Rows.totalCancelsUptoRow.domain false) (((Rows.OpenSpec.upto Rows.totalCancelsSpec).at F).post enc Try.prog Try.f6 false true false false) := by
  refine returnsInHanded_of_cond (C := Try.checked) (s := Rows.OpenSpec.upto Rows.totalCancelsSpec) (k := Rows.uptoSmall) rfl totalCancels_own started (by kernel_rfl) Try.func6
    (OpenSpec.witness (enc := enc) (C := Try.checked) (s := Rows.OpenSpec.upto Rows.totalCancelsSpec) (k := Rows.uptoSmall) rfl false ⟨#[], #[.slice none 0 0, .float .f64 0, .float .f64 0], []⟩ 8 (by kernel_rfl) (by kernel_rfl) (by kernel_rfl) (x := ([.nil, .lit (.float .f64 0), .lit (.float .f64 0)], [], [])) (by kernel_rfl) rfl (by kernel_rfl)) ?_
  intro W base args ds gs before hval0 hW _ hk _
  have hval : ∀ (j : Nat) t v, Try.f6.params[j]? = some t → args[j]? = some v → Value.okWide Try.prog W .any base t v := hval0
  have hW' := hW
  obtain ⟨p, q, hA0, hV, rfl, hfz, hnd⟩ := hW
  have hA : DataW.TrodAll enc Try.prog W 0 (fun _ => true) true Try.f6.params.toList args.toList ds p := hA0
  obtain ⟨rfl, rfl⟩ := trodVars_none hV
  have hpost : ∀ W', Below W.heap.size W W' → Rows.totalCancelsSpec.post enc Try.prog Try.f6 false true false false W args (.bool true) W' := fun W' hb => by
    have hlen : ds.length = 3 := by have hh := hA; rw [Try.params6] at hh; obtain ⟨_, _, d0, ds0, _, _, _, rfl, _, _, hh⟩ := trodAll_cons hh; obtain ⟨_, _, d1, ds1, _, _, _, rfl, _, _, hh⟩ := trodAll_cons hh; obtain ⟨_, _, d2, ds2, _, _, _, rfl, _, _, hh⟩ := trodAll_cons hh; obtain ⟨_, rfl, _⟩ := trodAll_nil hh; simp
    obtain ⟨e0, e1, e2, rfl⟩ : ∃ e0 e1 e2, ds = [e0, e1, e2] := by match ds, hlen with | [e0, e1, e2], _ => exact ⟨e0, e1, e2, rfl⟩
    exact law_post totalCancels_laid rfl hW' (by rw [Try.params6]; exact totalCancels_types) (tb := 4) (by kernel_rfl) Try.underlying4 rfl rfl rfl hb
  rw [Try.params6] at hA hval
  obtain ⟨v0, vs0, d0, ds0, p0, q0, hargs, rfl, rfl, h0, r0⟩ := trodAll_cons hA
  obtain ⟨v1, vs1, d1, ds1, p1, q1, rfl, rfl, rfl, h1, r1⟩ := trodAll_cons r0
  obtain ⟨v2, vs2, d2, ds2, p2, q2, rfl, rfl, rfl, h2, r2⟩ := trodAll_cons r1
  obtain ⟨rfl, rfl, rfl⟩ := trodAll_nil r2
  obtain rfl : args = #[v0, v1, v2] := by cases args; simp_all
  obtain ⟨A, n, c, f, rfl, hsd, hAt, hy⟩ := open_floats Try.underlying22 Try.underlying24 (by kernel_rfl) (hval 0 22 v0 rfl rfl) h0
  obtain ⟨x, rfl, rfl, rfl, w1⟩ := open_float Try.underlying24 (hval 1 24 v1 rfl rfl) h1
  obtain ⟨y, rfl, rfl, rfl, w2⟩ := open_float Try.underlying24 (hval 2 24 v2 rfl rfl) h2
  have hbk := upto_bound hk
  simp only [Rows.uptoBulkAll, List.cons_append, List.nil_append, List.append_nil] at hbk
  have hbn := bulk_list hsd
  refine (totalCancels_walk n c x y A f W (by omega) (f64_wf w1) (f64_wf w2) (fun j hj => f64_wf (hy j hj)) hAt).mono fun e W' ⟨he, hg⟩ => ?_
  subst he
  exact ⟨_, rfl, hpost _ hg⟩

theorem totalCancels_holds : Rows.TotalCancelsUptoSaid :=
  OpenClaim.holds_of_cond 6 Try.f6 rfl rfl rfl rfl rfl rfl rfl ⟨rfl, rfl, rfl, rfl, rfl⟩ rfl rfl rfl rfl rfl (by kernel_rfl) Try.func6 (by kernel_rfl)
    (of_decide_eq_true (by kernel_rfl)) (by unfold Func.isWrapper; first | (rw [if_pos (by decide +kernel)]; kernel_rfl) | (rw [if_neg (by decide +kernel)]; exact ⟨rfl, rfl⟩))
    (fun os started H enc _ F => totalCancels_lifted os started H enc F)
#print axioms totalCancels_holds
end Go.Proofs.Ytjakjnmfndfehaa
