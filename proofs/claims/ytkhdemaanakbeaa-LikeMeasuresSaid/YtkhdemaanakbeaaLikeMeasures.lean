/- Jaro's, Winkler's, Dice's and Hamming's measures are the document's, bit by bit: the law LikeMeasures returns true for every input. No condition. -/
import Derived.Test.YtkhdemaanakbeaaDv
import Derived.Test.YtkhdemaanakbeaaJf
import Derived.Test.YtkhdemaanakbeaaDw
import Derived.Test.YtkhdemaanakbeaaLs
namespace Go.Proofs.Ytkhdemaanakbeaa
open Go.RowKit Go.Pst Go.ChangeShapes Go.WideShapes Go.ChangeAt Go.Joins Go.Deep
set_option maxRecDepth 100000
set_option linter.unusedSimpArgs false
set_option linter.unusedVariables false

def LkPost (t : Nat) (e : Int) (w : World) (en : Ending) (w' : World) : Prop :=
  ∃ u, en = .returned (.tuple #[.float .f64 u, .int .i64 e]) ∧ cn u = t ∧ Below w.heap.size w w'
def gone (t : Nat) (e : Int) : Nat := if e = 0 then t else 0
theorem lk_of_share {t : Nat} {e : Int} {w : World} {f : FuncId} {args : Array Value} (h : Calls Try.prog f args w (SharePost t e w)) : Calls Try.prog f args w (LkPost (gone t e) e w) := by
  refine h.mono ?_
  rintro en w' ⟨u, h1, h2, h3, h4⟩
  refine ⟨u, h1, ?_, h4⟩
  unfold gone
  by_cases e0 : e = 0
  · rw [if_pos e0]; exact h3 e0
  · rw [if_neg e0, h2 e0]; decide
theorem gone_lt {t : Nat} {e : Int} (h : t < 2 ^ 64) : gone t e < 2 ^ 64 := by
  unfold gone; split
  · exact h
  · decide
def wiW (n m s J : Nat) (most : Int) (fa fb : Nat → Int) : Nat := wiV J (fl (wiK fa fb (min most.toNat (min n m)))) s
def wiE (s : Nat) (most : Int) : Int := if wiBad s most then 1 else 0
theorem most_nat {s : Nat} {most : Int} (h : wiBad s most = false) : most = (most.toNat : Int) := by
  unfold wiBad at h
  simp only [Bool.or_eq_false_iff, decide_eq_false_iff_not] at h
  omega
theorem winkler_any (A B : Option Addr) (n m c d s : Nat) (most : Int) (fa fb : Nat → Int) (w : World) (hA : NameAt w w.heap.size A n fa) (hB : NameAt w w.heap.size B m fb) (hn : n ≤ 35184372088832) (hm : m ≤ 35184372088832) :
    Calls Try.prog 40 #[.slice A n c, .slice B m d, .float .f64 s, .int .i64 most] w (SharePost (wiW n m s (jaroV n m fa fb) most fa fb) (wiE s most) w) := by
  cases hb : wiBad s most
  · have e : wiE s most = 0 := by unfold wiE; rw [hb]; rfl
    rw [e]
    have h := most_nat hb
    unfold wiW
    generalize most.toNat = k at *
    subst h
    exact winkler_good A B n m c d s _ k fa fb w hA hB hn hm hb (jaro_any A B n m c d fa fb w hA hB hn hm)
  · have e : wiE s most = 1 := by unfold wiE; rw [hb]; rfl
    rw [e]
    exact winkler_bad A B n m c d s most w hb _
theorem rwinkler_any (A B : Option Addr) (n m c d s : Nat) (most : Int) (fa fb : Nat → Int) (w : World) (hA : NameAt w w.heap.size A n fa) (hB : NameAt w w.heap.size B m fb) (hn : n ≤ 35184372088832) (hm : m ≤ 35184372088832) :
    Calls Try.prog 41 #[.slice A n c, .slice B m d, .float .f64 s, .int .i64 most] w (SharePost (wiW n m s (jaroV n m fa fb) most fa fb) (wiE s most) w) := by
  cases hb : wiBad s most
  · have e : wiE s most = 0 := by unfold wiE; rw [hb]; rfl
    rw [e]
    have h := most_nat hb
    unfold wiW
    generalize most.toNat = k at *
    subst h
    exact rwinkler_good A B n m c d s _ k fa fb w hA hB hn hm hb (rjaro_any A B n m c d fa fb w hA hB hn hm)
  · have e : wiE s most = 1 := by unfold wiE; rw [hb]; rfl
    rw [e]
    exact rwinkler_bad A B n m c d s most w hb _

set_option maxHeartbeats 4000000 in
theorem likeMeasures_core (n m c d scale sharp J tw td h : Nat) (most size ew ed : Int) (hb : Bool) (A B : Option Addr) (fa fb : Nat → Int) (w : World)
    (hA : NameAt w w.heap.size A n fa) (hB : NameAt w w.heap.size B m fb) (hJl : J < 2 ^ 64) (hwl : tw < 2 ^ 64) (hdl : td < 2 ^ 64)
    (h1 : ∀ w, NameAt w w.heap.size A n fa → NameAt w w.heap.size B m fb → Calls Try.prog 40 #[.slice A n c, .slice B m d, .float .f64 scale, .int .i64 most] w (LkPost tw ew w))
    (h2 : ∀ w, NameAt w w.heap.size A n fa → NameAt w w.heap.size B m fb → Calls Try.prog 41 #[.slice A n c, .slice B m d, .float .f64 scale, .int .i64 most] w (LkPost tw ew w))
    (h3 : ∀ w, NameAt w w.heap.size A n fa → NameAt w w.heap.size B m fb → Calls Try.prog 37 #[.slice A n c, .slice B m d, .int .i64 size] w (LkPost td ed w))
    (h4 : ∀ w, NameAt w w.heap.size A n fa → NameAt w w.heap.size B m fb → Calls Try.prog 42 #[.slice A n c, .slice B m d, .int .i64 size] w (LkPost td ed w))
    (h5 : ∀ w, NameAt w w.heap.size A n fa → NameAt w w.heap.size B m fb → Calls Try.prog 38 #[.slice A n c, .slice B m d] w fun en w' => en = .returned (.tuple #[.int .i64 (h : Int), .bool hb]) ∧ Below w.heap.size w w')
    (h6 : ∀ w, NameAt w w.heap.size A n fa → NameAt w w.heap.size B m fb → Calls Try.prog 43 #[.slice A n c, .slice B m d] w fun en w' => en = .returned (.tuple #[.int .i64 (h : Int), .bool hb]) ∧ Below w.heap.size w w')
    (h7 : ∀ w, NameAt w w.heap.size A n fa → NameAt w w.heap.size B m fb → Calls Try.prog 44 #[.slice A n c, .slice B m d] w (FlLike J w))
    (h8 : ∀ w, NameAt w w.heap.size A n fa → NameAt w w.heap.size B m fb → Calls Try.prog 45 #[.slice A n c, .slice B m d] w (FlLike J w)) :
    Calls Try.prog 11 #[.slice A n c, .slice B m d, .agg #[.float .f64 scale, .float .f64 sharp, .int .i64 most, .int .i64 size]] w
      fun en w' => en = .returned (.bool true) ∧ Below w.heap.size w w' := by
  have HA := Lib.hid hA; have HB := Lib.hid hB; have H1 := Lib.hid h1; have H2 := Lib.hid h2; have H3 := Lib.hid h3; have H4 := Lib.hid h4; have H5 := Lib.hid h5; have H6 := Lib.hid h6; have H7 := Lib.hid h7; have H8 := Lib.hid h8
  clear hA hB h1 h2 h3 h4 h5 h6 h7 h8
  go_enter Try.func11, Try.ntmps11
  go_upto_region 1 with fail
  have O := (Reg.Own.nil w).alloc rfl #[.float .f64 scale, .float .f64 sharp, .int .i64 most, .int .i64 size] 66
  obtain ⟨c0, f0, z0, y0, -, zz⟩ := O.rules
  have HO := Lib.hid O; clear O
  go_wp2_with fail
  refine (H1.out _ ((HA.out.below HO.out.below (Nat.le_refl _)).more HO.out.size) ((HB.out.below HO.out.below (Nat.le_refl _)).more HO.out.size)).mono ?_
  rintro en wn ⟨a1, rfl, ha1, hbn⟩
  have Ha1 := Lib.hid ha1
  have O := HO.out.keep hbn
  clear HO c0 f0 z0 y0 zz
  obtain ⟨c0, f0, z0, y0, -, zz⟩ := O.rules
  have HO := Lib.hid O; clear O
  clear hbn ha1
  go_wp2_with fail
  refine (H2.out _ ((HA.out.below HO.out.below (Nat.le_refl _)).more HO.out.size) ((HB.out.below HO.out.below (Nat.le_refl _)).more HO.out.size)).mono ?_
  rintro en wn ⟨a2, rfl, ha2, hbn⟩
  have Ha2 := Lib.hid ha2
  have O := HO.out.keep hbn
  clear HO c0 f0 z0 y0 zz
  obtain ⟨c0, f0, z0, y0, -, zz⟩ := O.rules
  have HO := Lib.hid O; clear O
  clear hbn ha2
  go_wp2_with fail
  refine (H3.out _ ((HA.out.below HO.out.below (Nat.le_refl _)).more HO.out.size) ((HB.out.below HO.out.below (Nat.le_refl _)).more HO.out.size)).mono ?_
  rintro en wn ⟨a3, rfl, ha3, hbn⟩
  have Ha3 := Lib.hid ha3
  have O := HO.out.keep hbn
  clear HO c0 f0 z0 y0 zz
  obtain ⟨c0, f0, z0, y0, -, zz⟩ := O.rules
  have HO := Lib.hid O; clear O
  clear hbn ha3
  go_wp2_with fail
  refine (H4.out _ ((HA.out.below HO.out.below (Nat.le_refl _)).more HO.out.size) ((HB.out.below HO.out.below (Nat.le_refl _)).more HO.out.size)).mono ?_
  rintro en wn ⟨a4, rfl, ha4, hbn⟩
  have Ha4 := Lib.hid ha4
  have O := HO.out.keep hbn
  clear HO c0 f0 z0 y0 zz
  obtain ⟨c0, f0, z0, y0, -, zz⟩ := O.rules
  have HO := Lib.hid O; clear O
  clear hbn ha4
  go_wp2_with fail
  refine (H5.out _ ((HA.out.below HO.out.below (Nat.le_refl _)).more HO.out.size) ((HB.out.below HO.out.below (Nat.le_refl _)).more HO.out.size)).mono ?_
  rintro en wn ⟨rfl, hbn⟩
  have O := HO.out.keep hbn
  clear HO c0 f0 z0 y0 zz
  obtain ⟨c0, f0, z0, y0, -, zz⟩ := O.rules
  have HO := Lib.hid O; clear O
  clear hbn
  go_wp2_with fail
  refine (H6.out _ ((HA.out.below HO.out.below (Nat.le_refl _)).more HO.out.size) ((HB.out.below HO.out.below (Nat.le_refl _)).more HO.out.size)).mono ?_
  rintro en wn ⟨rfl, hbn⟩
  have O := HO.out.keep hbn
  clear HO c0 f0 z0 y0 zz
  obtain ⟨c0, f0, z0, y0, -, zz⟩ := O.rules
  have HO := Lib.hid O; clear O
  clear hbn
  go_wp2_with fail
  refine (awake_any _).mono ?_
  rintro en wn ⟨rfl, hbn⟩
  have O := HO.out.keep hbn
  clear HO c0 f0 z0 y0 zz
  obtain ⟨c0, f0, z0, y0, -, zz⟩ := O.rules
  have HO := Lib.hid O; clear O
  clear hbn
  go_wp2_with fail
  refine (H7.out _ ((HA.out.below HO.out.below (Nat.le_refl _)).more HO.out.size) ((HB.out.below HO.out.below (Nat.le_refl _)).more HO.out.size)).mono ?_
  rintro en wn ⟨a5, rfl, ha5, hbn⟩
  have Ha5 := Lib.hid ha5
  have O := HO.out.keep hbn
  clear HO c0 f0 z0 y0 zz
  obtain ⟨c0, f0, z0, y0, -, zz⟩ := O.rules
  have HO := Lib.hid O; clear O
  clear hbn ha5
  go_wp2_with fail
  refine (H8.out _ ((HA.out.below HO.out.below (Nat.le_refl _)).more HO.out.size) ((HB.out.below HO.out.below (Nat.le_refl _)).more HO.out.size)).mono ?_
  rintro en wn ⟨a6, rfl, ha6, hbn⟩
  have Ha6 := Lib.hid ha6
  have O := HO.out.keep hbn
  clear HO c0 f0 z0 y0 zz
  obtain ⟨c0, f0, z0, y0, -, zz⟩ := O.rules
  have HO := Lib.hid O; clear O
  clear hbn ha6
  go_wp2_with fail
  refine (alike_any _ _ J _ Ha5.out Ha6.out hJl).mono ?_
  rintro en wn ⟨rfl, hbn⟩
  have O := HO.out.keep hbn
  clear HO c0 f0 z0 y0 zz
  obtain ⟨c0, f0, z0, y0, -, zz⟩ := O.rules
  have HO := Lib.hid O; clear O
  clear hbn
  go_wp2_with fail
  refine (alike_any _ _ tw _ Ha1.out Ha2.out hwl).mono ?_
  rintro en wn ⟨rfl, hbn⟩
  have O := HO.out.keep hbn
  clear HO c0 f0 z0 y0 zz
  obtain ⟨c0, f0, z0, y0, -, zz⟩ := O.rules
  have HO := Lib.hid O; clear O
  clear hbn
  go_wp2_with fail
  refine (alike_any _ _ td _ Ha3.out Ha4.out hdl).mono ?_
  rintro en wn ⟨rfl, hbn⟩
  have O := HO.out.keep hbn
  clear HO c0 f0 z0 y0 zz
  obtain ⟨c0, f0, z0, y0, -, zz⟩ := O.rules
  have HO := Lib.hid O; clear O
  clear hbn
  go_wp2_with fail
  go_ret
  exact ⟨rfl, HO.out.below⟩
theorem wiV_lt (J K s : Nat) : wiV J K s < 2 ^ 64 := arV_lt _ _ _
theorem diW_lt (n m : Nat) (size : Int) (fa fb : Nat → Int) : diW n m size fa fb < 2 ^ 64 := by
  unfold diW diV; split
  · decide
  · exact arV_lt _ _ _
theorem likeMeasures_walk (n m c d scale sharp : Nat) (most size : Int) (A B : Option Addr) (fa fb : Nat → Int) (w : World)
    (hA : NameAt w w.heap.size A n fa) (hB : NameAt w w.heap.size B m fb) (hn : n ≤ 35184372088832) (hm : m ≤ 35184372088832) (hc : n ≤ c) (hd : m ≤ d) (hra : Runes32 n fa) (hrb : Runes32 m fb) :
    Calls Try.prog 11 #[.slice A n c, .slice B m d, .agg #[.float .f64 scale, .float .f64 sharp, .int .i64 most, .int .i64 size]] w
      fun en w' => en = .returned (.bool true) ∧ Below w.heap.size w w' :=
  likeMeasures_core n m c d scale sharp (jaroV n m fa fb) (gone (wiW n m scale (jaroV n m fa fb) most fa fb) (wiE scale most)) (gone (diW n m size fa fb) (diE size)) (hamV n m fa fb) most size (wiE scale most) (diE size) (decide (n = m)) A B fa fb w hA hB
    (jaroV_cn n m fa fb).2 (gone_lt (wiV_lt _ _ _)) (gone_lt (diW_lt ..))
    (fun w hA hB => lk_of_share (winkler_any A B n m c d scale most fa fb w hA hB hn hm))
    (fun w hA hB => lk_of_share (rwinkler_any A B n m c d scale most fa fb w hA hB hn hm))
    (fun w hA hB => lk_of_share (dice_any A B n m c d size fa fb w hA hB hn hm hc hd))
    (fun w hA hB => lk_of_share (rdice_any A B n m c d size fa fb w hA hB hn hm hc hd hra hrb))
    (fun w hA hB => hamming_any A B n m c d fa fb w hA hB hn hm)
    (fun w hA hB => rhamming_any A B n m c d fa fb w hA hB hn hm)
    (fun w hA hB => jaro_any A B n m c d fa fb w hA hB hn hm)
    (fun w hA hB => rjaro_any A B n m c d fa fb w hA hB hn hm)

theorem likeMeasures_own : ownKnob Try.prog.godebug = none := by kernel_rfl
theorem likeMeasures_laid : laidOutB Try.prog = true := by kernel_rfl
theorem likeMeasures_types : ∀ t ∈ ([22, 22, 66] : List TypeId), Try.prog.readableRec t = true ∧ t < Try.prog.types.size := by
  simp only [List.mem_cons, List.not_mem_nil, or_false, forall_eq_or_imp, forall_eq]
  exact ⟨⟨by kernel_rfl, of_decide_eq_true (by kernel_rfl)⟩, ⟨by kernel_rfl, of_decide_eq_true (by kernel_rfl)⟩, ⟨by kernel_rfl, of_decide_eq_true (by kernel_rfl)⟩⟩
set_option maxRecDepth 100000 in
theorem likeMeasures_lifted (os : Os) (started : os.Started) (H : Type) (enc : TypeId × Value → H) :
    ReturnsInHanded {} Try.checked os 11 .any (Rows.likeMeasuresSpec.pre6 enc Try.prog Try.f11 Rows.likeMeasuresRow.domain false) (Rows.likeMeasuresSpec.post enc Try.prog Try.f11 false true false false) := by
  refine returnsInHanded_of_change_sized (C := Try.checked) likeMeasures_own started (by kernel_rfl) Try.func11
    (ChangeSpec.witness6 (enc := enc) (C := Try.checked) false ⟨#[], #[.slice none 0 0, .slice none 0 0, .agg #[.float .f64 0, .float .f64 0, .int .i64 0, .int .i64 0]], []⟩ 8 (by kernel_rfl) (by kernel_rfl) (by kernel_rfl) (by kernel_rfl)) ?_
  intro W base args ds gs before hval0 hW hcnd hsz hholds
  have hval : ∀ (j : Nat) t v, Try.f11.params[j]? = some t → args[j]? = some v → Value.okWide Try.prog W .any base t v := hval0
  have hW' := hW
  obtain ⟨p, q, hA0, hV, rfl, hfz, hnd⟩ := hW
  have hA : DataW.TrodAll enc Try.prog W 0 (fun _ => true) true Try.f11.params.toList args.toList ds p := hA0
  obtain ⟨rfl, rfl⟩ := trodVars_none hV
  have hpost : ∀ W', Below W.heap.size W W' → Rows.likeMeasuresSpec.post enc Try.prog Try.f11 false true false false W args (.bool true) W' := fun W' hb => by
    have hlen : ds.length = 3 := by have hh := hA; rw [Try.params11] at hh; obtain ⟨_, _, d0, ds0, _, _, _, rfl, _, _, hh⟩ := trodAll_cons hh; obtain ⟨_, _, d1, ds1, _, _, _, rfl, _, _, hh⟩ := trodAll_cons hh; obtain ⟨_, _, d2, ds2, _, _, _, rfl, _, _, hh⟩ := trodAll_cons hh; obtain ⟨_, rfl, _⟩ := trodAll_nil hh; simp
    obtain ⟨e0, e1, e2, rfl⟩ : ∃ e0 e1 e2, ds = [e0, e1, e2] := by match ds, hlen with | [e0, e1, e2], _ => exact ⟨e0, e1, e2, rfl⟩
    exact law_post likeMeasures_laid rfl hW' (by rw [Try.params11]; exact likeMeasures_types) (tb := 4) (by kernel_rfl) Try.underlying4 rfl rfl rfl hb
  rw [Try.params11] at hA hval
  obtain ⟨v0, vs0, d0, ds0, p0, q0, hargs, rfl, rfl, h0, r0⟩ := trodAll_cons hA
  obtain ⟨v1, vs1, d1, ds1, p1, q1, rfl, rfl, rfl, h1, r1⟩ := trodAll_cons r0
  obtain ⟨v2, vs2, d2, ds2, p2, q2, rfl, rfl, rfl, h2, r2⟩ := trodAll_cons r1
  obtain ⟨rfl, rfl, rfl⟩ := trodAll_nil r2
  obtain rfl : args = #[v0, v1, v2] := by cases args; simp_all
  obtain ⟨A, n, c, fa, rfl, hsd, hAt, hra⟩ := open_runes Try.underlying22 Try.underlying21 (by kernel_rfl) (hval 0 22 v0 rfl rfl) h0
  have hnc := len_cap Try.underlying22 h0
  obtain ⟨B, m, d, fb, rfl, hsd1, hBt, hrb⟩ := open_runes Try.underlying22 Try.underlying21 (by kernel_rfl) (hval 1 22 v1 rfl rfl) h1
  have hmd := len_cap Try.underlying22 h1
  obtain ⟨scale, sharp, most, size, rfl, lx, ly, ls, lu⟩ := open_sharp Try.underlying66 (by kernel_rfl) (by kernel_rfl) Try.underlying23 Try.underlying23 Try.underlying3 Try.underlying3 (hval 2 66 v2 rfl rfl) h2
  have hlen := sized_list (j := 0) (t := 22) hsz (by kernel_rfl) rfl Try.underlying22 hsd
  have hlen1 := sized_list (j := 1) (t := 22) hsz (by kernel_rfl) rfl Try.underlying22 hsd1
  rw [show Try.checked.prog.bytesOf 21 = 4 by kernel_rfl] at hlen hlen1
  have := reachBytes_lt
  refine (likeMeasures_walk n m c d scale sharp most size A B fa fb W hAt hBt (by omega) (by omega) hnc hmd hra hrb).mono fun e W' ⟨he, hg⟩ => ?_
  subst he
  exact ⟨_, rfl, hpost _ hg⟩

theorem likeMeasures_holds : Rows.LikeMeasuresSaid :=
  OpenClaim.holds_of_wide 11 Try.f11 rfl rfl rfl rfl rfl rfl rfl ⟨rfl, rfl, rfl, rfl, rfl⟩ rfl rfl rfl rfl rfl (by kernel_rfl) Try.func11 (by kernel_rfl)
    (of_decide_eq_true (by kernel_rfl)) (by unfold Func.isWrapper; first | (rw [if_pos (by decide +kernel)]; kernel_rfl) | (rw [if_neg (by decide +kernel)]; exact ⟨rfl, rfl⟩))
    (fun os started H enc _ => likeMeasures_lifted os started H enc)
#print axioms likeMeasures_holds

end Go.Proofs.Ytkhdemaanakbeaa
