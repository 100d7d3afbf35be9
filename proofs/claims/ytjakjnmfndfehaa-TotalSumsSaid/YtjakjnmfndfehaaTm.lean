/- A sum in memory: an infinite number is added; the sum as a float. Condition: the sum is there. -/
import Derived.Test.YtjakjnmfndfehaaTl
namespace Go.Pst
open Go Ieee
/-- What a sum is as a float. -/
def exV (nn p l s m : Bool) (sum d : Int) : Nat :=
  if nn || (p && l) then 9221120237041090561 else if p then 9218868437227405312 else if l then 18442240474082181120 else if sum = 0 then (if s && !m then 9223372036854775808 else 0) else fvN sum d
end Go.Pst
namespace Go.Proofs.Ytjakjnmfndfehaa
open Go.RowKit Go.Pst
set_option maxRecDepth 20000
set_option linter.unusedSimpArgs false
set_option linter.unusedVariables false

theorem long_f (n c : Nat) (A : Option Addr) (w : World) (hn : n ≤ 1099511627776) : Calls Try.prog 68 #[.slice A n c] w fun en w' => en = .returned (.bool (decide (65536 < n))) ∧ w = w' := by
  rw [show decide (65536 < n) = decide ((65536 : Int) < (n : Int)) by rw [decide_eq_decide]; omega]
  go_enter Try.func68, Try.ntmps68
  go_wp2
  go_ret
  exact ⟨rfl, rfl⟩

attribute [local go_sem] m64bits m64from
theorem mnanv_any (w : World) : Calls Try.prog 108 #[] w fun en w' => en = .returned (.float .f64 9221120237041090561) ∧ w = w' := by
  go_enter Try.func108, Try.ntmps108
  go_wp2
  go_ret
  exact ⟨rfl, rfl⟩

def InfPost (B : Nat) (V : Nat → Nat) (d : Int) (p l n b : Bool) (w : World) (en : Ending) (w' : World) : Prop :=
  (∃ v, en = .returned v) ∧ Fr w w' B ∧ ExAt w' B V d (p || !b) (l || b) n true true

set_option maxHeartbeats 1000000 in
theorem infinite_any (B : Nat) (V : Nat → Nat) (d : Int) (p l n s m b : Bool) (w : World) (h : ExAt w B V d p l n s m) :
    Calls Try.prog 76 #[.pointer (some ⟨B, 0, none⟩), .bool b] w (InfPost B V d p l n b w) := by
  have H := Lib.hid h
  have f3 := h.wide.fr 73; have f4 := h.wide.fr 74; have f6 := h.wide.fr 76; have f7 := h.wide.fr 77
  have c3 := h.cp; have c4 := h.cl; have c6 := h.cs; have c7 := h.cm
  clear h
  have HF : Hid (InfPost B V d p l n b w (.returned (.tuple #[])) ((((w.setCell ⟨B, 76, none⟩ (.bool true)).setCell ⟨B, 77, none⟩ (.bool true)).setCell ⟨B, 73, none⟩ (.bool (p || !b))).setCell ⟨B, 74, none⟩ (.bool (l || b)))) := Lib.hid
    ⟨⟨_, rfl⟩, ((((Fr.refl w B).setB _ _).setB _ _).setB _ _).setB _ _, H.out.setS.setM.setP.setL⟩
  cases p <;> cases l <;> cases b <;>
  · go_enter Try.func76, Try.ntmps76
    go_wp2_with fail
    go_end0
    exact HF.out

theorem info72l (V : Nat → Nat) : (Try.prog.info? 82).map (·.size) = some (wcells V).length := by
  rw [info72, wcells_len]; rfl


set_option maxHeartbeats 4000000 in
theorem total_any (B : Nat) (V : Nat → Nat) (d sum : Int) (p l nn s m : Bool) (w : World) (h : ExAt w B V d p l nn s m) (hV : WIs V sum) (hs : sum.natAbs < 2 ^ K46) (hd : 1074 ≤ d ∧ d ≤ 2148) :
    Calls Try.prog 78 #[.pointer (some ⟨B, 0, none⟩)] w fun en w' => en = .returned (.float .f64 (exV nn p l s m sum d)) ∧ Below w.heap.size w w' := by
  have hs' : sum.natAbs < H71 := by rw [h71_two]; exact hs
  have hsm : Small sum := ⟨by omega, by omega⟩
  have HSG := Lib.hid fun w h => sign_any B 0 V sum w h hV hsm
  have HFL := Lib.hid fun w => float_any V sum d w hV hs hd
  have H := Lib.hid h
  have c3 := h.cp; have c4 := h.cl; have c5 := h.cn; have c6 := h.cs; have c7 := h.cm
  clear h hs hs' hsm hV
  obtain ⟨r, hr⟩ : ∃ r, r = exV nn p l s m sum d := ⟨_, rfl⟩
  rw [← hr]
  unfold exV at hr
  cases nn
  · cases p
    · cases l
      · by_cases h0 : sum = 0
        · have hg : sgnI sum = 0 := by rw [h0]; rfl
          rw [hg] at HSG
          cases s
          · have HR : Hid (0 = r) := Lib.hid (by rw [hr]; simp [h0])
            clear hr h0 hg
            go_enter Try.func78, Try.ntmps78
            go_wp2_with fail
            refine (HSG.out _ H.out.wide).mono ?_
            rintro en w' ⟨rfl, rfl⟩
            go_wp2_with fail
            go_ret
            exact ⟨congrArg (fun x => Ending.returned (Value.float .f64 x)) HR.out, Below.refl _ _⟩
          · cases m
            · have HR : Hid (9223372036854775808 = r) := Lib.hid (by rw [hr]; simp [h0])
              have HC := Lib.hid fun w => mcopy_any 0 13830554455654793216 w (by omega) (by omega)
              rw [show csN 0 13830554455654793216 = 9223372036854775808 from by decide] at HC
              clear hr h0 hg
              go_enter Try.func78, Try.ntmps78
              go_wp2_with fail
              refine (HSG.out _ H.out.wide).mono ?_
              rintro en w' ⟨rfl, rfl⟩
              go_wp2_with fail
              refine (HC.out _).mono ?_
              rintro en w' ⟨rfl, rfl⟩
              go_wp2_with fail
              go_ret
              exact ⟨congrArg (fun x => Ending.returned (Value.float .f64 x)) HR.out, Below.refl _ _⟩
            · have HR : Hid (0 = r) := Lib.hid (by rw [hr]; simp [h0])
              clear hr h0 hg
              go_enter Try.func78, Try.ntmps78
              go_wp2_with fail
              refine (HSG.out _ H.out.wide).mono ?_
              rintro en w' ⟨rfl, rfl⟩
              go_wp2_with fail
              go_ret
              exact ⟨congrArg (fun x => Ending.returned (Value.float .f64 x)) HR.out, Below.refl _ _⟩
        · have HR : Hid (fvN sum d = r) := Lib.hid (by rw [hr]; simp [h0])
          have hg : (sgnI sum == 0) = false := by
            unfold sgnI
            by_cases h1 : sum < 0
            · rw [if_pos h1]; rfl
            · rw [if_neg h1, if_neg h0]; rfl
          obtain ⟨g, eg⟩ : ∃ g, g = sgnI sum := ⟨_, rfl⟩
          rw [← eg] at hg HSG
          clear hr h0 eg
          go_enter Try.func78, Try.ntmps78
          go_wp2_with fail
          refine (HSG.out _ H.out.wide).mono ?_
          rintro en w' ⟨rfl, rfl⟩
          go_wp2_with fail
          have hu := Try.underlying82
          have hi := info72l V
          have r0 : w.rangeAt B 0 (wcells V) := fun j v hv => by
            have hj : j < 72 := by rcases Nat.lt_or_ge j 72 with h | h; exact h; rw [List.getElem?_eq_none (by rw [wcells_len]; exact h)] at hv; cases hv
            rw [wcells_get _ hj] at hv; injection hv with hv; rw [← hv]
            exact H.out.wide.cell j hj
          have cd := H.out.cd
          have B0 := Lib.hid (Below.refl w.heap.size w)
          have hlt := H.out.wide.lt
          have KS := Lib.hid (fun (w1 w2 : World) (h1 : w1.rangeAt B 0 (wcells V)) (h2 : w1.cell? ⟨B, 72, none⟩ = some (.int .i64 d)) (h3 : B < w1.heap.size) (h4 : Hid (Below w.heap.size w w1)) (hb : Below w1.heap.size w1 w2) =>
            show w2.rangeAt B 0 (wcells V) ∧ w2.cell? ⟨B, 72, none⟩ = some (.int .i64 d) ∧ B < w2.heap.size ∧ Hid (Below w.heap.size w w2) from
              ⟨fun j v hv => by rw [hb.cell (show B < w1.heap.size from h3)]; exact h1 j v hv, by rw [hb.cell (show B < w1.heap.size from h3)]; exact h2, Nat.lt_of_lt_of_le h3 hb.size, Lib.hid (h4.out.trans (hb.mono h4.out.size))⟩)
          go_region_held3 (fun w2 => w2.rangeAt B 0 (wcells V) ∧ w2.cell? ⟨B, 72, none⟩ = some (.int .i64 d) ∧ B < w2.heap.size ∧ Hid (Below w.heap.size w w2))
            (first | (go_split_ands; exact KS.out _ _ (by assumption) (by assumption) (by assumption) (by assumption) (by assumption)) | (go_split_ands; exact KS.out _ _ (by assumption) (by assumption) (by assumption) (by assumption) (Below.refl _ _).drew) | (go_split_ands; exact KS.out _ _ (by assumption) (by assumption) (by assumption) (by assumption) (Below.refl _ _)))
            (first | (go_at_call 111; refine (HFL.out _).mono ?_; rintro en wn ⟨rfl, hbn⟩))
          go_split_ands
          have BF := (by assumption : Hid (Below w.heap.size w wn))
          clear hu hi r0 KS
          go_wp2_with fail
          go_ret
          exact ⟨congrArg (fun x => Ending.returned (Value.float .f64 x)) HR.out, BF.out⟩
      · have HR : Hid (18442240474082181120 = r) := Lib.hid (by rw [hr]; simp)
        clear hr
        go_enter Try.func78, Try.ntmps78
        go_wp2_with fail
        refine (mninf_any _).mono ?_
        rintro en w' ⟨rfl, rfl⟩
        go_wp2_with fail
        go_ret
        exact ⟨congrArg (fun x => Ending.returned (Value.float .f64 x)) HR.out, Below.refl _ _⟩
    · cases l
      · have HR : Hid (9218868437227405312 = r) := Lib.hid (by rw [hr]; simp)
        clear hr
        go_enter Try.func78, Try.ntmps78
        go_wp2_with fail
        refine (minfv_any _).mono ?_
        rintro en w' ⟨rfl, rfl⟩
        go_wp2_with fail
        go_ret
        exact ⟨congrArg (fun x => Ending.returned (Value.float .f64 x)) HR.out, Below.refl _ _⟩
      · have HR : Hid (9221120237041090561 = r) := Lib.hid (by rw [hr]; simp)
        clear hr
        go_enter Try.func78, Try.ntmps78
        go_wp2_with fail
        refine (mnanv_any _).mono ?_
        rintro en w' ⟨rfl, rfl⟩
        go_wp2_with fail
        go_ret
        exact ⟨congrArg (fun x => Ending.returned (Value.float .f64 x)) HR.out, Below.refl _ _⟩
  · have HR : Hid (9221120237041090561 = r) := Lib.hid (by rw [hr]; simp)
    clear hr
    go_enter Try.func78, Try.ntmps78
    go_wp2_with fail
    refine (mnanv_any _).mono ?_
    rintro en w' ⟨rfl, rfl⟩
    go_wp2_with fail
    go_ret
    exact ⟨congrArg (fun x => Ending.returned (Value.float .f64 x)) HR.out, Below.refl _ _⟩
end Go.Proofs.Ytjakjnmfndfehaa
