/- A half and a brain, as a number, are it again, where they are numbers: the law RealBack returns true for every input. No condition. -/
import Derived.Test.YtpemchghaddgdaaHb
import Derived.Test.YtpemchghaddgdaaLaw
namespace Go.Proofs.Ytpemchghaddgdaa
open Go.RowKit Go.Pst Go.ChangeShapes Go.WideShapes Go.ChangeAt Go.Joins Go.Deep
set_option maxRecDepth 20000
set_option linter.unusedSimpArgs false
set_option linter.unusedVariables false

theorem nan_from (f e b : Nat) : nan64 (fromN f e NN1 b) = nanG f e b := by
  unfold fromN
  cases h : nanG f e b
  · rw [if_neg (by simp)]
    have hr : ∀ r, r ≤ 9218868437227405312 → nan64 (signedBits 52 11 (negG f e b) r) = false := fun r hr => by
      unfold nan64; rw [(signed_lt _ r (by omega)).2.1]; simp; omega
    split
    · exact hr _ (Nat.le_refl _)
    · exact hr _ (rnd_lt _ _)
  · rw [if_pos rfl]; decide

theorem from_lt (f e b : Nat) : fromN f e NN1 b < 2 ^ 64 := by
  unfold fromN
  split
  · decide
  · refine (signed_lt _ _ ?_).1
    split
    · decide
    · have := rnd_lt (mantG f e b) (expG f e b); omega

/-- What the law asks of the fields of a size. -/
def Says (n : Bool) (E F : Int) (T : Int) : Prop := (n = false ∧ (E == T) = false) ∨ (n = false ∧ E = T ∧ F = 0) ∨ (n = true ∧ E = T ∧ 0 < F)

theorem says_half (h : Nat) : Says (nanG 10 5 h) ((h : Int) / 1024 % 32) ((h : Int) % 1024) 31 := by
  unfold Says nanG
  simp only [show (2 : Nat) ^ 10 = 1024 from rfl, show (2 : Nat) ^ 5 = 32 from rfl]
  by_cases h1 : h / 1024 % 32 = 31
  · by_cases h2 : h % 1024 = 0
    · refine .inr (.inl ⟨by simp [h2], by omega, by omega⟩)
    · refine .inr (.inr ⟨by simp [h1, h2], by omega, by omega⟩)
  · refine .inl ⟨by simp [h1], by simp; omega⟩

theorem says_brain (h : Nat) : Says (nanG 7 8 h) ((h : Int) / 128 % 256) ((h : Int) % 128) 255 := by
  unfold Says nanG
  simp only [show (2 : Nat) ^ 7 = 128 from rfl, show (2 : Nat) ^ 8 = 256 from rfl]
  by_cases h1 : h / 128 % 256 = 255
  · by_cases h2 : h % 128 = 0
    · refine .inr (.inl ⟨by simp [h2], by omega, by omega⟩)
    · refine .inr (.inr ⟨by simp [h1, h2], by omega, by omega⟩)
  · refine .inl ⟨by simp [h1], by simp; omega⟩


set_option maxHeartbeats 1000000 in
theorem realBack_walk (h : Nat) (w : World) (hh : h < 65536) :
    Calls Try.prog 13 #[.int .u16 h] w fun en w' => en = .returned (.bool true) ∧ Below w.heap.size w w' := by
  have h1 := fun w => from_half_any h w (by omega)
  have h2 := fun w => from_brain_any h w (by omega)
  have b1 := fun w => half_of_any (fromN 10 5 NN1 h) w (from_lt _ _ _)
  have b2 := fun w => brain_of_any (fromN 7 8 NN1 h) w (from_lt _ _ _)
  have i1 : nanG 10 5 h = false → intoN 10 5 32256 (fromN 10 5 NN1 h) = h := into_from 10 5 32256 NN1 h (by omega) (by omega) (by omega) (by omega) (by omega)
  have i2 : nanG 7 8 h = false → intoN 7 8 32704 (fromN 7 8 NN1 h) = h := into_from 7 8 32704 NN1 h (by omega) (by omega) (by omega) (by omega) (by omega)
  have s1 := says_half h
  have s2 := says_brain h
  have e1 : fne .f64 (fromN 10 5 NN1 h) (fromN 10 5 NN1 h) = nanG 10 5 h := by rw [fne_self, nan_from]
  have e2 : fne .f64 (fromN 7 8 NN1 h) (fromN 7 8 NN1 h) = nanG 7 8 h := by rw [fne_self, nan_from]
  have hb1 : nanG 10 5 h = false → ∀ w, Calls Try.prog 63 #[.float .f64 (fromN 10 5 NN1 h)] w fun en w' => en = .returned (.int .u16 h) ∧ Below w.heap.size w w' := fun hn w => by have := b1 w; rwa [i1 hn] at this
  have hb2 : nanG 7 8 h = false → ∀ w, Calls Try.prog 64 #[.float .f64 (fromN 7 8 NN1 h)] w fun en w' => en = .returned (.int .u16 h) ∧ Below w.heap.size w w' := fun hn w => by have := b2 w; rwa [i2 hn] at this
  clear b1 b2 i1 i2
  generalize fromN 10 5 NN1 h = x at *
  generalize fromN 7 8 NN1 h = y at *
  generalize nanG 10 5 h = n1 at *
  generalize nanG 7 8 h = n2 at *
  have H1 := Lib.hid h1; have H2 := Lib.hid h2; clear h1 h2
  rcases s1 with ⟨rfl, f1⟩ | ⟨rfl, f1, g1⟩ | ⟨rfl, f1, g1⟩
  · replace hb1 := hb1 rfl
    rcases s2 with ⟨rfl, f2⟩ | ⟨rfl, f2, g2⟩ | ⟨rfl, f2, g2⟩
    · replace hb2 := hb2 rfl
      have HB1 := Lib.hid hb1; clear hb1; have HB2 := Lib.hid hb2; clear hb2
      go_enter Try.func13, Try.ntmps13
      go_wp2_with fail
      have O := Reg.Own.nil w
      have zz := O.rules
      have HO := Lib.hid O; clear O
      refine (awake_any _).mono ?_
      rintro en wn ⟨rfl, hbn⟩
      have O := HO.out.keep hbn
      clear HO zz
      have zz := O.rules
      have HO := Lib.hid O; clear O
      clear hbn
      go_wp2_with fail
      refine (H1.out _).mono ?_
      rintro en wn ⟨rfl, hbn⟩
      have O := HO.out.keep hbn
      clear HO zz
      have zz := O.rules
      have HO := Lib.hid O; clear O
      clear hbn
      go_wp2_with fail
      refine (H2.out _).mono ?_
      rintro en wn ⟨rfl, hbn⟩
      have O := HO.out.keep hbn
      clear HO zz
      have zz := O.rules
      have HO := Lib.hid O; clear O
      clear hbn
      go_wp2_with fail
      refine (HB1.out _).mono ?_
      rintro en wn ⟨rfl, hbn⟩
      have O := HO.out.keep hbn
      clear HO zz
      have zz := O.rules
      have HO := Lib.hid O; clear O
      clear hbn
      go_wp2_with fail
      refine (HB2.out _).mono ?_
      rintro en wn ⟨rfl, hbn⟩
      have O := HO.out.keep hbn
      clear HO zz
      have zz := O.rules
      have HO := Lib.hid O; clear O
      clear hbn
      go_wp2_with fail
      go_ret
      exact ⟨by first | rfl | simp, HO.out.below⟩
    · replace hb2 := hb2 rfl
      have HB1 := Lib.hid hb1; clear hb1; have HB2 := Lib.hid hb2; clear hb2
      go_enter Try.func13, Try.ntmps13
      go_wp2_with fail
      have O := Reg.Own.nil w
      have zz := O.rules
      have HO := Lib.hid O; clear O
      refine (awake_any _).mono ?_
      rintro en wn ⟨rfl, hbn⟩
      have O := HO.out.keep hbn
      clear HO zz
      have zz := O.rules
      have HO := Lib.hid O; clear O
      clear hbn
      go_wp2_with fail
      refine (H1.out _).mono ?_
      rintro en wn ⟨rfl, hbn⟩
      have O := HO.out.keep hbn
      clear HO zz
      have zz := O.rules
      have HO := Lib.hid O; clear O
      clear hbn
      go_wp2_with fail
      refine (H2.out _).mono ?_
      rintro en wn ⟨rfl, hbn⟩
      have O := HO.out.keep hbn
      clear HO zz
      have zz := O.rules
      have HO := Lib.hid O; clear O
      clear hbn
      go_wp2_with fail
      refine (HB1.out _).mono ?_
      rintro en wn ⟨rfl, hbn⟩
      have O := HO.out.keep hbn
      clear HO zz
      have zz := O.rules
      have HO := Lib.hid O; clear O
      clear hbn
      go_wp2_with fail
      refine (HB2.out _).mono ?_
      rintro en wn ⟨rfl, hbn⟩
      have O := HO.out.keep hbn
      clear HO zz
      have zz := O.rules
      have HO := Lib.hid O; clear O
      clear hbn
      go_wp2_with fail
      go_ret
      exact ⟨by first | rfl | simp, HO.out.below⟩
    · clear hb2
      have HB1 := Lib.hid hb1; clear hb1
      go_enter Try.func13, Try.ntmps13
      go_wp2_with fail
      have O := Reg.Own.nil w
      have zz := O.rules
      have HO := Lib.hid O; clear O
      refine (awake_any _).mono ?_
      rintro en wn ⟨rfl, hbn⟩
      have O := HO.out.keep hbn
      clear HO zz
      have zz := O.rules
      have HO := Lib.hid O; clear O
      clear hbn
      go_wp2_with fail
      refine (H1.out _).mono ?_
      rintro en wn ⟨rfl, hbn⟩
      have O := HO.out.keep hbn
      clear HO zz
      have zz := O.rules
      have HO := Lib.hid O; clear O
      clear hbn
      go_wp2_with fail
      refine (H2.out _).mono ?_
      rintro en wn ⟨rfl, hbn⟩
      have O := HO.out.keep hbn
      clear HO zz
      have zz := O.rules
      have HO := Lib.hid O; clear O
      clear hbn
      go_wp2_with fail
      refine (HB1.out _).mono ?_
      rintro en wn ⟨rfl, hbn⟩
      have O := HO.out.keep hbn
      clear HO zz
      have zz := O.rules
      have HO := Lib.hid O; clear O
      clear hbn
      go_wp2_with fail
      go_ret
      exact ⟨by first | rfl | simp, HO.out.below⟩
  · replace hb1 := hb1 rfl
    rcases s2 with ⟨rfl, f2⟩ | ⟨rfl, f2, g2⟩ | ⟨rfl, f2, g2⟩
    · replace hb2 := hb2 rfl
      have HB1 := Lib.hid hb1; clear hb1; have HB2 := Lib.hid hb2; clear hb2
      go_enter Try.func13, Try.ntmps13
      go_wp2_with fail
      have O := Reg.Own.nil w
      have zz := O.rules
      have HO := Lib.hid O; clear O
      refine (awake_any _).mono ?_
      rintro en wn ⟨rfl, hbn⟩
      have O := HO.out.keep hbn
      clear HO zz
      have zz := O.rules
      have HO := Lib.hid O; clear O
      clear hbn
      go_wp2_with fail
      refine (H1.out _).mono ?_
      rintro en wn ⟨rfl, hbn⟩
      have O := HO.out.keep hbn
      clear HO zz
      have zz := O.rules
      have HO := Lib.hid O; clear O
      clear hbn
      go_wp2_with fail
      refine (H2.out _).mono ?_
      rintro en wn ⟨rfl, hbn⟩
      have O := HO.out.keep hbn
      clear HO zz
      have zz := O.rules
      have HO := Lib.hid O; clear O
      clear hbn
      go_wp2_with fail
      refine (HB1.out _).mono ?_
      rintro en wn ⟨rfl, hbn⟩
      have O := HO.out.keep hbn
      clear HO zz
      have zz := O.rules
      have HO := Lib.hid O; clear O
      clear hbn
      go_wp2_with fail
      refine (HB2.out _).mono ?_
      rintro en wn ⟨rfl, hbn⟩
      have O := HO.out.keep hbn
      clear HO zz
      have zz := O.rules
      have HO := Lib.hid O; clear O
      clear hbn
      go_wp2_with fail
      go_ret
      exact ⟨by first | rfl | simp, HO.out.below⟩
    · replace hb2 := hb2 rfl
      have HB1 := Lib.hid hb1; clear hb1; have HB2 := Lib.hid hb2; clear hb2
      go_enter Try.func13, Try.ntmps13
      go_wp2_with fail
      have O := Reg.Own.nil w
      have zz := O.rules
      have HO := Lib.hid O; clear O
      refine (awake_any _).mono ?_
      rintro en wn ⟨rfl, hbn⟩
      have O := HO.out.keep hbn
      clear HO zz
      have zz := O.rules
      have HO := Lib.hid O; clear O
      clear hbn
      go_wp2_with fail
      refine (H1.out _).mono ?_
      rintro en wn ⟨rfl, hbn⟩
      have O := HO.out.keep hbn
      clear HO zz
      have zz := O.rules
      have HO := Lib.hid O; clear O
      clear hbn
      go_wp2_with fail
      refine (H2.out _).mono ?_
      rintro en wn ⟨rfl, hbn⟩
      have O := HO.out.keep hbn
      clear HO zz
      have zz := O.rules
      have HO := Lib.hid O; clear O
      clear hbn
      go_wp2_with fail
      refine (HB1.out _).mono ?_
      rintro en wn ⟨rfl, hbn⟩
      have O := HO.out.keep hbn
      clear HO zz
      have zz := O.rules
      have HO := Lib.hid O; clear O
      clear hbn
      go_wp2_with fail
      refine (HB2.out _).mono ?_
      rintro en wn ⟨rfl, hbn⟩
      have O := HO.out.keep hbn
      clear HO zz
      have zz := O.rules
      have HO := Lib.hid O; clear O
      clear hbn
      go_wp2_with fail
      go_ret
      exact ⟨by first | rfl | simp, HO.out.below⟩
    · clear hb2
      have HB1 := Lib.hid hb1; clear hb1
      go_enter Try.func13, Try.ntmps13
      go_wp2_with fail
      have O := Reg.Own.nil w
      have zz := O.rules
      have HO := Lib.hid O; clear O
      refine (awake_any _).mono ?_
      rintro en wn ⟨rfl, hbn⟩
      have O := HO.out.keep hbn
      clear HO zz
      have zz := O.rules
      have HO := Lib.hid O; clear O
      clear hbn
      go_wp2_with fail
      refine (H1.out _).mono ?_
      rintro en wn ⟨rfl, hbn⟩
      have O := HO.out.keep hbn
      clear HO zz
      have zz := O.rules
      have HO := Lib.hid O; clear O
      clear hbn
      go_wp2_with fail
      refine (H2.out _).mono ?_
      rintro en wn ⟨rfl, hbn⟩
      have O := HO.out.keep hbn
      clear HO zz
      have zz := O.rules
      have HO := Lib.hid O; clear O
      clear hbn
      go_wp2_with fail
      refine (HB1.out _).mono ?_
      rintro en wn ⟨rfl, hbn⟩
      have O := HO.out.keep hbn
      clear HO zz
      have zz := O.rules
      have HO := Lib.hid O; clear O
      clear hbn
      go_wp2_with fail
      go_ret
      exact ⟨by first | rfl | simp, HO.out.below⟩
  · clear hb1
    rcases s2 with ⟨rfl, f2⟩ | ⟨rfl, f2, g2⟩ | ⟨rfl, f2, g2⟩
    · replace hb2 := hb2 rfl
      have HB2 := Lib.hid hb2; clear hb2
      go_enter Try.func13, Try.ntmps13
      go_wp2_with fail
      have O := Reg.Own.nil w
      have zz := O.rules
      have HO := Lib.hid O; clear O
      refine (awake_any _).mono ?_
      rintro en wn ⟨rfl, hbn⟩
      have O := HO.out.keep hbn
      clear HO zz
      have zz := O.rules
      have HO := Lib.hid O; clear O
      clear hbn
      go_wp2_with fail
      refine (H1.out _).mono ?_
      rintro en wn ⟨rfl, hbn⟩
      have O := HO.out.keep hbn
      clear HO zz
      have zz := O.rules
      have HO := Lib.hid O; clear O
      clear hbn
      go_wp2_with fail
      refine (H2.out _).mono ?_
      rintro en wn ⟨rfl, hbn⟩
      have O := HO.out.keep hbn
      clear HO zz
      have zz := O.rules
      have HO := Lib.hid O; clear O
      clear hbn
      go_wp2_with fail
      refine (HB2.out _).mono ?_
      rintro en wn ⟨rfl, hbn⟩
      have O := HO.out.keep hbn
      clear HO zz
      have zz := O.rules
      have HO := Lib.hid O; clear O
      clear hbn
      go_wp2_with fail
      go_ret
      exact ⟨by first | rfl | simp, HO.out.below⟩
    · replace hb2 := hb2 rfl
      have HB2 := Lib.hid hb2; clear hb2
      go_enter Try.func13, Try.ntmps13
      go_wp2_with fail
      have O := Reg.Own.nil w
      have zz := O.rules
      have HO := Lib.hid O; clear O
      refine (awake_any _).mono ?_
      rintro en wn ⟨rfl, hbn⟩
      have O := HO.out.keep hbn
      clear HO zz
      have zz := O.rules
      have HO := Lib.hid O; clear O
      clear hbn
      go_wp2_with fail
      refine (H1.out _).mono ?_
      rintro en wn ⟨rfl, hbn⟩
      have O := HO.out.keep hbn
      clear HO zz
      have zz := O.rules
      have HO := Lib.hid O; clear O
      clear hbn
      go_wp2_with fail
      refine (H2.out _).mono ?_
      rintro en wn ⟨rfl, hbn⟩
      have O := HO.out.keep hbn
      clear HO zz
      have zz := O.rules
      have HO := Lib.hid O; clear O
      clear hbn
      go_wp2_with fail
      refine (HB2.out _).mono ?_
      rintro en wn ⟨rfl, hbn⟩
      have O := HO.out.keep hbn
      clear HO zz
      have zz := O.rules
      have HO := Lib.hid O; clear O
      clear hbn
      go_wp2_with fail
      go_ret
      exact ⟨by first | rfl | simp, HO.out.below⟩
    · clear hb2
      go_enter Try.func13, Try.ntmps13
      go_wp2_with fail
      have O := Reg.Own.nil w
      have zz := O.rules
      have HO := Lib.hid O; clear O
      refine (awake_any _).mono ?_
      rintro en wn ⟨rfl, hbn⟩
      have O := HO.out.keep hbn
      clear HO zz
      have zz := O.rules
      have HO := Lib.hid O; clear O
      clear hbn
      go_wp2_with fail
      refine (H1.out _).mono ?_
      rintro en wn ⟨rfl, hbn⟩
      have O := HO.out.keep hbn
      clear HO zz
      have zz := O.rules
      have HO := Lib.hid O; clear O
      clear hbn
      go_wp2_with fail
      refine (H2.out _).mono ?_
      rintro en wn ⟨rfl, hbn⟩
      have O := HO.out.keep hbn
      clear HO zz
      have zz := O.rules
      have HO := Lib.hid O; clear O
      clear hbn
      go_wp2_with fail
      go_ret
      exact ⟨by first | rfl | simp, HO.out.below⟩

theorem realBack_own : ownKnob Try.prog.godebug = none := by kernel_rfl
theorem realBack_laid : laidOutB Try.prog = true := by kernel_rfl
theorem realBack_types : ∀ t ∈ ([86] : List TypeId), Try.prog.readableRec t = true ∧ t < Try.prog.types.size := by
  simp only [List.mem_cons, List.not_mem_nil, or_false, forall_eq_or_imp, forall_eq]
  exact ⟨by kernel_rfl, of_decide_eq_true (by kernel_rfl)⟩
set_option maxRecDepth 100000 in
theorem realBack_lifted (os : Os) (started : os.Started) (H : Type) (enc : TypeId × Value → H) :
    ReturnsInHanded {} Try.checked os 13 .any (Rows.realBackSpec.pre6 enc Try.prog Try.f13 Rows.realBackRow.domain false) (Rows.realBackSpec.post enc Try.prog Try.f13 false true false false) := by
  refine returnsInHanded_of_change (C := Try.checked) realBack_own started (by kernel_rfl) Try.func13
    (ChangeSpec.witness6 (enc := enc) (C := Try.checked) false ⟨#[], #[.int .u16 0], []⟩ 8 (by kernel_rfl) (by kernel_rfl) (by kernel_rfl) (by kernel_rfl)) ?_
  intro W base args ds gs before hval0 hW hcnd hsz
  have hval : ∀ (j : Nat) t v, Try.f13.params[j]? = some t → args[j]? = some v → Value.okWide Try.prog W .any base t v := hval0
  have hW' := hW
  obtain ⟨p, q, hA0, hV, rfl, hfz, hnd⟩ := hW
  have hA : DataW.TrodAll enc Try.prog W 0 (fun _ => true) true Try.f13.params.toList args.toList ds p := hA0
  obtain ⟨rfl, rfl⟩ := trodVars_none hV
  have hpost : ∀ W', Below W.heap.size W W' → Rows.realBackSpec.post enc Try.prog Try.f13 false true false false W args (.bool true) W' := fun W' hb => by
    have hlen : ds.length = 1 := by have hh := hA; rw [Try.params13] at hh; obtain ⟨_, _, d0, ds0, _, _, _, rfl, _, _, hh⟩ := trodAll_cons hh; obtain ⟨_, rfl, _⟩ := trodAll_nil hh; simp
    obtain ⟨e0, rfl⟩ : ∃ e0, ds = [e0] := by match ds, hlen with | [e0], _ => exact ⟨e0, rfl⟩
    exact law_post realBack_laid rfl hW' (by rw [Try.params13]; exact realBack_types) (tb := 4) (by kernel_rfl) Try.underlying4 rfl rfl rfl hb
  rw [Try.params13] at hA hval
  obtain ⟨v0, vs0, d0, ds0, p0, q0, hargs, rfl, rfl, h0, r0⟩ := trodAll_cons hA
  obtain ⟨rfl, rfl, rfl⟩ := trodAll_nil r0
  obtain rfl : args = #[v0] := by cases args; simp_all
  obtain ⟨b, rfl, rfl, rfl, w0⟩ := open_int Try.underlying86 (hval 0 86 v0 rfl rfl) h0
  obtain ⟨b, rfl, hb⟩ := wf_u16 w0
  refine (realBack_walk b W hb).mono fun e W' ⟨he, hg⟩ => ?_
  subst he
  exact ⟨_, rfl, hpost _ hg⟩

theorem realBack_holds : Rows.RealBackSaid :=
  OpenClaim.holds_of_wide 13 Try.f13 rfl rfl rfl rfl rfl rfl rfl ⟨rfl, rfl, rfl, rfl, rfl⟩ rfl rfl rfl rfl rfl (by kernel_rfl) Try.func13 (by kernel_rfl)
    (of_decide_eq_true (by kernel_rfl)) (by unfold Func.isWrapper; first | (rw [if_pos (by decide +kernel)]; kernel_rfl) | (rw [if_neg (by decide +kernel)]; exact ⟨rfl, rfl⟩))
    (fun os started H enc _ => realBack_lifted os started H enc)
#print axioms realBack_holds

end Go.Proofs.Ytpemchghaddgdaa
