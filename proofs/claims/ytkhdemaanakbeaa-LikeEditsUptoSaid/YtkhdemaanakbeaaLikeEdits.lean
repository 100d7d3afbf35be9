/- The way from one name to the other is the document's; applied, it is the two names: the law LikeEdits returns true for inputs that hold at most 1048576 data in all and leaves its arguments as they were. -/
import Derived.Test.YtkhdemaanakbeaaEm
import Derived.Test.YtkhdemaanakbeaaCk
import Derived.Laws.Cover4
namespace Go.Proofs.Ytkhdemaanakbeaa
open Go.RowKit Go.Pst Go.ChangeShapes Go.WideShapes Go.ChangeAt Go.Joins Go.Deep
set_option maxRecDepth 100000
set_option linter.unusedSimpArgs false
set_option linter.unusedVariables false
theorem endK_one {P : Nat → Nat × Nat} {K L : Nat} (h : EndK P K) (h' : EndK P L) : K = L := by
  rcases Nat.lt_trichotomy K L with g | g | g
  · have := h'.2 K g; rw [h.1] at this; simp at this
  · exact g
  · have := h.2 L g; rw [h'.1] at this; simp at this
theorem name_string {w : World} {B : Nat} {A : Option Addr} {n c : Nat} {f : Nat → Int} (h : NameAt w B A n f) : (convert 22 9 (.slice A n c)).run Try.prog w = .ok (.string (runesBytes (preL f n))) w := by
  rcases A with _ | a
  · have hn : n = 0 := by
      rcases Nat.eq_zero_or_pos n with e | e
      · exact e
      · obtain ⟨_, _, e, _⟩ := h e; cases e
    subst hn
    exact run_convert_runes_nil w _ _ _ _ _ Try.underlying22 Try.underlying21 Try.underlying9
  · have hl := preL_len f n
    have := run_convert_runes w 22 9 21 a n c (preL f n) (by omega) Try.underlying22 Try.underlying21 Try.underlying9 (fun j hj => by
      rw [hl] at hj
      obtain ⟨g, off, e, _, hc⟩ := h (by omega)
      injection e with e
      subst e
      have ha : ((⟨g, off, none⟩ : Addr).add j) = ⟨g, off + j, none⟩ := by unfold Addr.add; split <;> simp_all
      rw [ha, hc j hj, preL_get f hj])
    rw [List.take_of_length_le (by omega)] at this
    exact this
theorem name_own_at {w : World} {base : Nat} {e : TypeId} {A : Option Addr} {c : Nat} {l : List Int} (h : w.ownsRow base e 1 (.slice A l.length c) l.length (runes l)) : NameAt w w.heap.size A l.length (fun k => l.getD k 0) := by
  obtain ⟨A', c', h1, h2⟩ := name_of_own (show w.ownsRow base e 1 (.slice A l.length c) l.length (l.map fun x => .int .i32 x) from h)
  obtain rfl : A = A' := by injection h1
  exact h2
theorem name_pre {w : World} {base : Nat} {e : TypeId} {A : Option Addr} {c n : Nat} {f : Nat → Int} (h : w.ownsRow base e 1 (.slice A (preL f n).length c) (preL f n).length (runes (preL f n))) : NameAt w w.heap.size A n f := by
  have h2 := name_own_at h
  rw [preL_len] at h2
  exact fun hn => by
    obtain ⟨g, off, e, h3, h4⟩ := h2 hn
    exact ⟨g, off, e, h3, fun i hi => (h4 i hi).trans (congrArg (fun z => some (Value.int .i32 z)) (preL_get f hi))⟩
set_option maxHeartbeats 3000000 in
theorem likeEdits_core (cI cO cX cT n m c d np cp : Nat) (A B Ap : Option Addr) (p : Nat → Int × Int × Nat) (fa fb : Nat → Int) (P : Nat → Nat × Nat) (E : Nat → Int × Int × Int) (e : Int) (w : World)
    (hA : NameAt w w.heap.size A n fa) (hB : NameAt w w.heap.size B m fb) (hn : n ≤ 1048576) (hm : m ≤ 1048576) (hnp : np ≤ 1048576) (hp : PairsAt w w.heap.size Ap np p)
    (hG : ∀ w, PairsAt w w.heap.size Ap np p → Calls Try.prog 18 #[.agg #[.float .f64 cI, .float .f64 cO, .float .f64 cX, .float .f64 cT, .slice Ap np cp]] w (GivenPost cI cO cX cT np p w))
    (hW : ∀ A' c' w, PairsAt w w.heap.size A' np p → Calls Try.prog 17 #[.agg #[.float .f64 cI, .float .f64 cO, .float .f64 cX, .float .f64 cT, .slice A' np c'], .slice A n c, .slice B m d] w fun en w' => en = .returned (.int .i64 e) ∧ Below w.heap.size w w')
    (hE : ∀ w, NameAt w w.heap.size A n fa → NameAt w w.heap.size B m fb → PairsAt w w.heap.size Ap np p → Calls Try.prog 34 #[.agg #[.float .f64 cI, .float .f64 cO, .float .f64 cX, .float .f64 cT, .slice Ap np cp], .slice A n c, .slice B m d] w (EditsPost P E e w))
    (hRE : e = 0 → ∀ A' c' w, NameAt w w.heap.size A n fa → NameAt w w.heap.size B m fb → PairsAt w w.heap.size A' np p → Calls Try.prog 35 #[.agg #[.float .f64 cI, .float .f64 cO, .float .f64 cX, .float .f64 cT, .slice A' np c'], .slice A n c, .slice B m d] w (REditsPost P E w))
    (hF : e = 0 → ∀ K, EndK P K → apA (fun t => E (K - 1 - t)) K = preL fa n ∧ apB (fun t => E (K - 1 - t)) K = preL fb m) :
    Calls Try.prog 8 #[.agg #[.float .f64 cI, .float .f64 cO, .float .f64 cX, .float .f64 cT, .slice Ap np cp], .slice A n c, .slice B m d] w
      fun en w' => en = .returned (.bool true) ∧ Below w.heap.size w w' := by
  have HA := Lib.hid hA; have HB := Lib.hid hB; have HP := Lib.hid hp; have HG := Lib.hid hG; have HWR := Lib.hid hW; have HED := Lib.hid hE; have HRE := Lib.hid hRE; have HFA := Lib.hid hF
  clear hA hB hp hG hW hE hRE hF
  go_enter Try.func8, Try.ntmps8
  go_wp2_with fail
  have O := (Reg.Own.nil w).alloc rfl #[.float .f64 cI, .float .f64 cO, .float .f64 cX, .float .f64 cT, .slice Ap np cp] 26
  obtain ⟨c0, f0, z0, y0, -, zz⟩ := O.rules
  have HO := Lib.hid O; clear O
  refine (HG.out _ ((HP.out.below HO.out.below (Nat.le_refl _)).more HO.out.size)).mono ?_
  rintro en wn ⟨A', c', rfl, hp', hbn⟩
  have HP1 := Lib.hid hp'
  have O := HO.out.keep hbn
  clear HO c0 f0 z0 y0 zz
  obtain ⟨c0, f0, z0, y0, -, zz⟩ := O.rules
  have HO := Lib.hid O; clear O
  clear hbn hp'
  have hal := (Below.refl wn.heap.size wn).alloc (Nat.le_refl _) (.cells #[.float .f64 cI, .float .f64 cO, .float .f64 cX, .float .f64 cT, .slice A' np c'] 39)
  replace HP1 := Lib.hid ((HP1.out.below hal (Nat.le_refl _)).more hal.size)
  clear hal
  have O := HO.out.alloc (k := wn.heap.size) rfl #[.float .f64 cI, .float .f64 cO, .float .f64 cX, .float .f64 cT, .slice A' np c'] 39
  clear HO c0 f0 z0 y0 zz
  obtain ⟨c1, f1, z1, y1, ⟨n10, -⟩, c0, f0, z0, y0, -, zz⟩ := O.rules
  have HO := Lib.hid O; clear O
  go_wp2_with fail
  refine (HED.out _ ((HA.out.below HO.out.below (Nat.le_refl _)).more HO.out.size) ((HB.out.below HO.out.below (Nat.le_refl _)).more HO.out.size) ((HP.out.below HO.out.below (Nat.le_refl _)).more HO.out.size)).mono ?_
  rintro en wn2 ⟨hbn, hr⟩
  replace HP1 := Lib.hid ((HP1.out.below hbn (Nat.le_refl _)).more hbn.size)
  by_cases he : e = 0
  · subst he
    rcases hr with hr | hr
    · exact absurd rfl hr.1
    obtain ⟨-, K, Ae, ce, hK, rfl, hend, hed⟩ := hr
    have HE1 := Lib.hid hed; have EK := Lib.hid hend
    clear hed hend
    have O := HO.out.keep hbn
    clear HO c1 f1 z1 y1 n10 c0 f0 z0 y0 zz
    obtain ⟨c1, f1, z1, y1, ⟨n10, -⟩, c0, f0, z0, y0, -, zz⟩ := O.rules
    have HO := Lib.hid O; clear O
    clear hbn
    go_wp2_with fail
    refine (HWR.out _ _ _ HP1.out).mono ?_
    rintro en wn3 ⟨rfl, hbn⟩
    replace HP1 := Lib.hid ((HP1.out.below hbn (Nat.le_refl _)).more hbn.size)
    replace HE1 := Lib.hid ((HE1.out.below hbn (Nat.le_refl _)).more hbn.size)
    have O := HO.out.keep hbn
    clear HO c1 f1 z1 y1 n10 c0 f0 z0 y0 zz
    obtain ⟨c1, f1, z1, y1, ⟨n10, -⟩, c0, f0, z0, y0, -, zz⟩ := O.rules
    have HO := Lib.hid O; clear O
    clear hbn
    go_wp2_with fail
    refine (awake_any _).mono ?_
    rintro en wn4 ⟨rfl, hbn⟩
    replace HP1 := Lib.hid ((HP1.out.below hbn (Nat.le_refl _)).more hbn.size)
    replace HE1 := Lib.hid ((HE1.out.below hbn (Nat.le_refl _)).more hbn.size)
    have O := HO.out.keep hbn
    clear HO c1 f1 z1 y1 n10 c0 f0 z0 y0 zz
    obtain ⟨c1, f1, z1, y1, ⟨n10, -⟩, c0, f0, z0, y0, -, zz⟩ := O.rules
    have HO := Lib.hid O; clear O
    clear hbn
    go_wp2_with fail
    refine (HRE.out (by first | exact rfl | exact trivial) _ _ _ ((HA.out.below HO.out.below (Nat.le_refl _)).more HO.out.size) ((HB.out.below HO.out.below (Nat.le_refl _)).more HO.out.size) HP1.out).mono ?_
    rintro en wn5 ⟨hbn, K2, Af, cf, hK2, rfl, hend2, hed2⟩
    replace HE1 := Lib.hid ((HE1.out.below hbn (Nat.le_refl _)).more hbn.size)
    obtain rfl := endK_one EK.out hend2
    have HE2 := Lib.hid hed2
    obtain ⟨hfa, hfb⟩ := HFA.out (by first | exact rfl | exact trivial) K EK.out
    have LA := Lib.hid hfa; have LB := Lib.hid hfb
    clear hend2 hed2 hfa hfb HFA
    generalize (fun t => E (K - 1 - t)) = F at *
    have O := HO.out.keep hbn
    clear HO c1 f1 z1 y1 n10 c0 f0 z0 y0 zz
    obtain ⟨c1, f1, z1, y1, ⟨n10, -⟩, c0, f0, z0, y0, -, zz⟩ := O.rules
    have HO := Lib.hid O; clear O
    clear hbn
    go_wp2_with fail
    have HOW := HO
    go_loopw [12] (fun t wr => ∃ i : Nat, t = .int .i64 (i : Int) ∧ i ≤ K ∧ Below wn5.heap.size wn5 wr) (fun t _ => K - (intOf t).toNat)
    case atStart => exact ⟨0, rfl, by omega, Below.refl _ _⟩
    case round =>
      obtain ⟨i, rfl, hi, hbw⟩ := hrel
      have BW := Lib.hid hbw
      have hsz := hbw.size
      clear hbw
      by_cases hik : i < K
      · have h3 : (i : Int) < (K : Int) := by omega
        have h00 : (0 : Int) ≤ (i : Int) := by omega
        obtain ⟨g, off, rfl, hg, hc⟩ := HE1.out (by omega)
        obtain ⟨g', off', rfl, hg', hc'⟩ := HE2.out (by omega)
        obtain ⟨q1, q2, q3⟩ := hc i hik
        obtain ⟨p1, p2, p3⟩ := hc' i hik
        have q1 := (BW.out.cell (p := ⟨g, off + i * 3, none⟩) hg).trans q1
        have q2 := (BW.out.cell (p := ⟨g, off + i * 3 + 1, none⟩) hg).trans q2
        have q3 := (BW.out.cell (p := ⟨g, off + i * 3 + 2, none⟩) hg).trans q3
        have p1 := (BW.out.cell (p := ⟨g', off' + i * 3, none⟩) hg').trans p1
        have p2 := (BW.out.cell (p := ⟨g', off' + i * 3 + 1, none⟩) hg').trans p2
        have p3 := (BW.out.cell (p := ⟨g', off' + i * 3 + 2, none⟩) hg').trans p3
        have hg2 : g < wr.heap.size := by omega
        have hg3 : g' < wr.heap.size := by omega
        generalize F i = ex at q1 q2 q3 p1 p2 p3
        obtain ⟨x1, x2, x3⟩ := ex
        clear hc hc'
        go_wp2_with fail
        refine Reg.wp_region_rd (by kernel_rfl) (by kernel_rfl) (fun _ => ?_)
        repeat (refine Reg.rd_op rfl ?_; apply Exists.intro; apply And.intro; (intro w' hb; have hc := Reg.rd_cells hb; clear hb; go_simp; (try go_bits); first | done | (with_reducible exact rfl)); (intro _ a' ha'; simp only [Act.put, List.setIfInBounds_toArray, List.set_cons_zero, List.set_cons_succ] at ha'; subst ha'))
        refine Reg.rd_end (fun wz hb => ?_)
        have BW2 := Lib.hid (BW.out.trans (hb.mono hsz))
        clear hb
        go_wp2_with fail
        go_roundw
        case rel => exact ⟨i + 1, by go_num, by omega, BW2.out⟩
        case measure => (simp [intOf] <;> omega)
      · obtain rfl : i = K := by omega
        have hnlt : ¬ (i : Int) < (i : Int) := by omega
        replace HE1 := Lib.hid ((HE1.out.below BW.out (Nat.le_refl _)).more hsz)
        have O := HOW.out.keep BW.out
        clear HO c1 f1 z1 y1 n10 c0 f0 z0 y0 zz
        obtain ⟨c1, f1, z1, y1, ⟨n10, -⟩, c0, f0, z0, y0, -, zz⟩ := O.rules
        have HO := Lib.hid O; clear O
        go_wp2_with fail
        refine (apply_any i ce Ae F wr hK HE1.out).mono ?_
        rw [LA.out, LB.out]
        rintro en wn6 ⟨Ax, cx, Ay, cy, rfl, hox, hoy, hbn⟩
        have NX := name_pre hox
        have NY := name_pre hoy
        rw [preL_len, preL_len]
        have O := HO.out.keep hbn
        clear HO c1 f1 z1 y1 n10 c0 f0 z0 y0 zz
        obtain ⟨c1, f1, z1, y1, ⟨n10, -⟩, c0, f0, z0, y0, -, zz⟩ := O.rules
        have HO := Lib.hid O; clear O
        have s1 := name_string (c := cx) NX
        have s2 := name_string (c := cy) NY
        have s3 := name_string (c := c) (HA.out.below HO.out.below (Nat.le_refl _))
        have s4 := name_string (c := d) (HB.out.below HO.out.below (Nat.le_refl _))
        generalize runesBytes (preL fa n) = S1 at s1 s3
        generalize runesBytes (preL fb m) = S2 at s2 s4
        clear hbn hox hoy NX NY
        go_wp2_with fail
        go_ret
        exact ⟨rfl, HO.out.below⟩
  · have he0 : (e == 0) = false := by simpa using he
    have he1 : (e != 0) = true := by simpa using he
    rcases hr with ⟨-, rfl⟩ | hr
    rotate_left
    · exact absurd hr.1 he
    clear he
    have O := HO.out.keep hbn
    clear HO c1 f1 z1 y1 n10 c0 f0 z0 y0 zz
    obtain ⟨c1, f1, z1, y1, ⟨n10, -⟩, c0, f0, z0, y0, -, zz⟩ := O.rules
    have HO := Lib.hid O; clear O
    clear hbn
    go_wp2_with fail
    refine (HWR.out _ _ _ HP1.out).mono ?_
    rintro en wn3 ⟨rfl, hbn⟩
    have O := HO.out.keep hbn
    clear HO c1 f1 z1 y1 n10 c0 f0 z0 y0 zz
    obtain ⟨c1, f1, z1, y1, ⟨n10, -⟩, c0, f0, z0, y0, -, zz⟩ := O.rules
    have HO := Lib.hid O; clear O
    clear hbn
    go_wp2_with fail
    refine (awake_any _).mono ?_
    rintro en wn4 ⟨rfl, hbn⟩
    have O := HO.out.keep hbn
    clear HO c1 f1 z1 y1 n10 c0 f0 z0 y0 zz
    obtain ⟨c1, f1, z1, y1, ⟨n10, -⟩, c0, f0, z0, y0, -, zz⟩ := O.rules
    have HO := Lib.hid O; clear O
    clear hbn
    go_wp2_with fail
    go_ret
    exact ⟨rfl, HO.out.below⟩
theorem likeEdits_walk (cI cO cX cT n m c d np cp : Nat) (A B Ap : Option Addr) (p : Nat → Int × Int × Nat) (fa fb : Nat → Int) (w : World)
    (hA : NameAt w w.heap.size A n fa) (hB : NameAt w w.heap.size B m fb) (hn : n ≤ 1048576) (hm : m ≤ 1048576) (hnp : np ≤ 1048576) (hp : PairsAt w w.heap.size Ap np p) (lX : cX < 2 ^ 64) :
    Calls Try.prog 8 #[.agg #[.float .f64 cI, .float .f64 cO, .float .f64 cX, .float .f64 cT, .slice Ap np cp], .slice A n c, .slice B m d] w
      fun en w' => en = .returned (.bool true) ∧ Below w.heap.size w w' :=
  likeEdits_core cI cO cX cT n m c d np cp A B Ap p fa fb (poK (tabT cI cO cX cT p np fa fb) cO cX cT p np fa fb n m) (seK (tabT cI cO cX cT p np fa fb) cO cX cT p np fa fb n m) (errN p np n m) w
    hA hB hn hm hnp hp
    (fun w hp => given_any cI cO cX cT Ap np cp p w hnp hp)
    (fun A' c' w hp => wrong_any cI cO cX cT n m c d np c' A B A' p w hn hm hnp hp)
    (fun w hA hB hp => edits_any cI cO cX cT n m c d np cp A B Ap p fa fb w hA hB hn hm hnp hp)
    (fun h A' c' w hA hB hp => redits_any cI cO cX cT n m c d np c' A B A' p fa fb w hA hB hn hm (err_ok h).1 hp (err_ok h).2.1 lX)
    (fun _ K hK => way_all hK)
theorem likeEdits_own : ownKnob Try.prog.godebug = none := by kernel_rfl
theorem likeEdits_laid : laidOutB Try.prog = true := by kernel_rfl
theorem likeEdits_types : ∀ t ∈ ([26, 22, 22] : List TypeId), Try.prog.readableRec t = true ∧ t < Try.prog.types.size := by
  simp only [List.mem_cons, List.not_mem_nil, or_false, forall_eq_or_imp, forall_eq]
  exact ⟨⟨by kernel_rfl, of_decide_eq_true (by kernel_rfl)⟩, ⟨by kernel_rfl, of_decide_eq_true (by kernel_rfl)⟩, ⟨by kernel_rfl, of_decide_eq_true (by kernel_rfl)⟩⟩
set_option maxRecDepth 100000 in
theorem likeEdits_lifted (os : Os) (started : os.Started) (H : Type) (enc : TypeId × Value → H) (F : Stop.Interp) :
    ReturnsInHanded {} Try.checked os 8 .any ((Rows.OpenSpec.upto Rows.likeEditsSpec).pre6 enc Try.prog Try.f8 Rows.likeEditsUptoRow.domain false) (((Rows.OpenSpec.upto Rows.likeEditsSpec).at F).post enc Try.prog Try.f8 false true false false) := by
  refine returnsInHanded_of_cond (C := Try.checked) (s := Rows.OpenSpec.upto Rows.likeEditsSpec) (k := Rows.uptoSmall) rfl likeEdits_own started (by kernel_rfl) Try.func8
    (OpenSpec.witness (enc := enc) (C := Try.checked) (s := Rows.OpenSpec.upto Rows.likeEditsSpec) (k := Rows.uptoSmall) rfl false ⟨#[], #[.agg #[.float .f64 0, .float .f64 0, .float .f64 0, .float .f64 0, .slice none 0 0], .slice none 0 0, .slice none 0 0], []⟩ 8 (by kernel_rfl) (by kernel_rfl) (by kernel_rfl) (x := ([.agg [.lit (.float .f64 0), .lit (.float .f64 0), .lit (.float .f64 0), .lit (.float .f64 0), .nil], .nil, .nil], [], [])) (by kernel_rfl) rfl (by kernel_rfl)) ?_
  intro W base args ds gs before hval0 hW _ hk _
  have hval : ∀ (j : Nat) t v, Try.f8.params[j]? = some t → args[j]? = some v → Value.okWide Try.prog W .any base t v := hval0
  have hW' := hW
  obtain ⟨p, q, hA0, hV, rfl, hfz, hnd⟩ := hW
  have hA : DataW.TrodAll enc Try.prog W 0 (fun _ => true) true Try.f8.params.toList args.toList ds p := hA0
  obtain ⟨rfl, rfl⟩ := trodVars_none hV
  have hpost : ∀ W', Below W.heap.size W W' → Rows.likeEditsSpec.post enc Try.prog Try.f8 false true false false W args (.bool true) W' := fun W' hb => by
    have hlen : ds.length = 3 := by have hh := hA; rw [Try.params8] at hh; obtain ⟨_, _, d0, ds0, _, _, _, rfl, _, _, hh⟩ := trodAll_cons hh; obtain ⟨_, _, d1, ds1, _, _, _, rfl, _, _, hh⟩ := trodAll_cons hh; obtain ⟨_, _, d2, ds2, _, _, _, rfl, _, _, hh⟩ := trodAll_cons hh; obtain ⟨_, rfl, _⟩ := trodAll_nil hh; simp
    obtain ⟨e0, e1, e2, rfl⟩ : ∃ e0 e1 e2, ds = [e0, e1, e2] := by match ds, hlen with | [e0, e1, e2], _ => exact ⟨e0, e1, e2, rfl⟩
    exact law_post likeEdits_laid rfl hW' (by rw [Try.params8]; exact likeEdits_types) (tb := 4) (by kernel_rfl) Try.underlying4 rfl rfl rfl hb
  rw [Try.params8] at hA hval
  obtain ⟨v0, vs0, d0, ds0, p0, q0, hargs, rfl, rfl, h0, r0⟩ := trodAll_cons hA
  obtain ⟨v1, vs1, d1, ds1, p1, q1, rfl, rfl, rfl, h1, r1⟩ := trodAll_cons r0
  obtain ⟨v2, vs2, d2, ds2, p2, q2, rfl, rfl, rfl, h2, r2⟩ := trodAll_cons r1
  obtain ⟨rfl, rfl, rfl⟩ := trodAll_nil r2
  obtain rfl : args = #[v0, v1, v2] := by cases args; simp_all
  obtain ⟨cI, cO, cX, cT, Ap, np, cp, p, rfl, bP, nP, lI, lO, lX, lT⟩ := open_costs Try.underlying26 (by kernel_rfl) (by kernel_rfl) Try.underlying23 Try.underlying23 Try.underlying23 Try.underlying23 Try.underlying24 Try.underlying35 (by kernel_rfl) (by kernel_rfl) Try.underlying21 Try.underlying21 Try.underlying33 (hval 0 26 v0 rfl rfl) h0
  obtain ⟨A, n, c, fa, rfl, bA, nA⟩ := open_name Try.underlying22 Try.underlying21 (by kernel_rfl) (hval 1 22 v1 rfl rfl) h1
  obtain ⟨B, m, d, fb, rfl, bB, nB⟩ := open_name Try.underlying22 Try.underlying21 (by kernel_rfl) (hval 2 22 v2 rfl rfl) h2
  have hbk := upto_bound hk
  simp only [Rows.uptoBulkAll, List.cons_append, List.nil_append, List.append_nil] at hbk
  refine (likeEdits_walk cI cO cX cT n m c d np cp A B Ap p fa fb W nA nB (by omega) (by omega) (by omega) nP lX).mono fun e W' ⟨he, hg⟩ => ?_
  subst he
  exact ⟨_, rfl, hpost _ hg⟩

theorem likeEdits_holds : Rows.LikeEditsUptoSaid :=
  OpenClaim.holds_of_cond 8 Try.f8 rfl rfl rfl rfl rfl rfl rfl ⟨rfl, rfl, rfl, rfl, rfl⟩ rfl rfl rfl rfl rfl (by kernel_rfl) Try.func8 (by kernel_rfl)
    (of_decide_eq_true (by kernel_rfl)) (by unfold Func.isWrapper; first | (rw [if_pos (by decide +kernel)]; kernel_rfl) | (rw [if_neg (by decide +kernel)]; exact ⟨rfl, rfl⟩))
    (fun os started H enc _ F => likeEdits_lifted os started H enc F)
#print axioms likeEdits_holds
end Go.Proofs.Ytkhdemaanakbeaa
