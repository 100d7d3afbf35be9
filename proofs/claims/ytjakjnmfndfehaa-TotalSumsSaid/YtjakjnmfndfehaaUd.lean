/- total: a row of floats made by append of whole lists. No condition. -/
import Derived.Test.YtjakjnmfndfehaaUa
import Derived.Test.YtjakjnmfndfehaaRq
namespace Go.Proofs.Ytjakjnmfndfehaa
open Go.RowKit Go.Pst
set_option maxRecDepth 20000
set_option linter.unusedSimpArgs false
set_option linter.unusedVariables false

/-- Two rows, one behind the other. -/
def joinR (y : Nat → Nat) (n : Nat) (h : Nat → Nat) : Nat → Nat := fun i => if i < n then y i else h (i - n)

theorem nums_join (y h : Nat → Nat) (n m : Nat) : nums y n ++ nums h m = nums (joinR y n h) (n + m) := by
  rw [← nums_add (joinR y n h) n m]
  unfold nums joinR
  congr 1
  · apply List.map_congr_left
    intro k hk
    rw [if_pos (List.mem_range.1 hk)]
  · apply List.map_congr_left
    intro k hk
    show _ = Value.float .f64 (if n + k < n then y (n + k) else h (n + k - n))
    rw [if_neg (by omega), Nat.add_sub_cancel_left]

theorem FlAt.congr {w : World} {B : Nat} {A : Option Addr} {n : Nat} {f g : Nat → Nat} (h : FlAt w B A n f) (hv : ∀ i, i < n → f i = g i) : FlAt w B A n g := fun hn => by
  obtain ⟨b, off, e, h1, h2⟩ := h hn
  exact ⟨b, off, e, h1, fun i hi => by rw [h2 i hi, hv i hi]⟩

theorem flat_new (w : World) (t : TypeId) (b : Nat) : FlAt (w.alloc (.cells #[.float .f64 b] t)) (w.heap.size + 1) (some ⟨w.heap.size, 0, none⟩) 1 (fun _ => b) := fun _ =>
  ⟨w.heap.size, 0, rfl, by omega, fun i hi => by
    obtain rfl : i = 0 := by omega
    exact (Reg.Blk.new w #[.float .f64 b] t).cell 0⟩

theorem flat_two (w : World) (t : TypeId) (b d : Nat) : FlAt (w.alloc (.cells #[.float .f64 b, .float .f64 d] t)) (w.heap.size + 1) (some ⟨w.heap.size, 0, none⟩) 2 (fun i => if i = 0 then b else d) := fun _ =>
  ⟨w.heap.size, 0, rfl, by omega, fun i hi => by
    have := (Reg.Blk.new w #[.float .f64 b, .float .f64 d] t).cell i
    rw [Nat.zero_add, this]
    have : i = 0 ∨ i = 1 := by omega
    rcases this with rfl | rfl <;> rfl⟩

theorem nums_len (y : Nat → Nat) (n : Nat) : (nums y n).length = n := by unfold nums; simp
theorem nums_one (y : Nat → Nat) (n : Nat) : ∀ u ∈ nums y n, u.oneCell' = true := by
  intro u hu
  unfold nums at hu
  obtain ⟨k, _, rfl⟩ := List.mem_map.1 hu
  rfl

theorem run_append_floats (w : World) (base : Nat) (v : Value) (n : Nat) (y : Nat → Nat) (hown : w.ownsRow base 24 1 v n (nums y n)) (A : Option Addr) (m c B : Nat) (h : Nat → Nat) (hA : FlAt w B A m h)
    (hsz : n + m ≤ 17592186044416) (hbase : base ≤ w.heap.size) :
    ∃ v' w', (Builtin.append_ #[22, 22] 22 #[v, .slice A m c]).run Try.prog w = .ok v' w' ∧ w'.ownsRow base 24 1 v' (n + m) (nums (joinR y n h) (n + m)) ∧ w.grownBy w' v.ownBlock := by
  obtain ⟨j0, hj0, hy0, hy1, hy2⟩ := info_parts infoNum
  rcases A with _ | ⟨b, off, sp⟩
  · have hm : m = 0 := by
      rcases Nat.eq_zero_or_pos m with e | e
      · exact e
      · obtain ⟨_, _, e, _⟩ := hA e; cases e
    subst hm
    rcases hown.2 with ⟨rfl, rfl⟩ | ⟨g, cap, cur, rfl, hb, hg, hnc, hcm, hcs, htake⟩
    · refine ⟨.slice none 0 0, w, ?_, World.ownsRow_nil w base _ 1, ⟨rfl, rfl, rfl, Nat.le_refl _, fun _ _ _ => rfl⟩⟩
      simp [Builtin.append_, run_underlying (P := Try.prog) Try.underlying22, run_underlying (P := Try.prog) Try.underlying24, sizeOf, typeInfo, hj0, hy1, Builtin.lenOf, Builtin.firstCells, loadCells, loadCellsFrom]
    · refine ⟨.slice (some ⟨g, 0, none⟩) n cap, w, ?_, ?_, ⟨rfl, rfl, rfl, Nat.le_refl _, fun _ _ _ => rfl⟩⟩
      · simp [Builtin.append_, run_underlying (P := Try.prog) Try.underlying22, run_underlying (P := Try.prog) Try.underlying24, sizeOf, typeInfo, hj0, hy1, Builtin.lenOf, Builtin.firstCells, loadCells, loadCellsFrom, hnc, storeCells]
      · have e : nums (joinR y n h) (n + 0) = nums y n := by rw [← nums_join]; simp [nums]
        rw [e]; exact hown
  · have hcl : ∀ j u, (nums h m)[j]? = some u → w.cell? ((⟨b, off, sp⟩ : Addr).add j) = some u := fun j u hu => by
      have hj : j < m := by
        have := (List.getElem?_eq_some_iff.1 hu).1
        rwa [nums_len] at this
      obtain ⟨b', off', e, _, hc⟩ := hA (by omega)
      cases e
      rw [nums_get h hj] at hu
      have ha : ((⟨b, off, none⟩ : Addr).add j) = ⟨b, off + j, none⟩ := by unfold Addr.add; split <;> simp_all
      rw [ha, hc j hj]; exact hu
    obtain ⟨v', w', h1, h2, h3, _⟩ := run_append_own_at (P := Try.prog) w base 22 22 24 j0 _ 1 8 Try.underlying22 hj0 hy0 hy1 hy2 rfl (by omega) v n _ hown ⟨b, off, sp⟩ m c (nums h m) (by rw [nums_len]; omega) hcl (nums_one h m) (by unfold maxLen; omega) (by omega) hbase
    exact ⟨v', w', h1, by rw [← nums_join]; exact h2, h3⟩

theorem wpList_floats {ops : Array Oper} {rest : List Oper} {o : Oper} {a : Act} {Q : Exit → Act → World → Prop} (w0 w : World) (hgd : o.guard = none) (s x : Operand)
    (ho : o.op = .call { callee := .builtin .append, args := #[s, x], argTypes := #[22, 22] }) (hty : o.type = 22)
    (hbw : Below w0.heap.size w0 w) (v : Value) (n : Nat) (y : Nat → Nat) (hs : a.eval s = v) (hown : w.ownsRow w0.heap.size 24 1 v n (nums y n))
    (A : Option Addr) (m c B : Nat) (h : Nat → Nat) (hx : a.eval x = .slice A m c) (hA : FlAt w B A m h) (hsz : n + m ≤ 17592186044416)
    (hk : ∀ v' w', w'.ownsRow w0.heap.size 24 1 v' (n + m) (nums (joinR y n h) (n + m)) → Below w0.heap.size w0 w' → wpList Try.prog ops Q rest (a.put o.dst v') w') :
    wpList Try.prog ops Q (o :: rest) a w := by
  refine wpList_plain hgd fun K hK => ?_
  obtain ⟨v', w', hr, h2, h3⟩ := run_append_floats w w0.heap.size v n y hown A m c B h hA hsz hbw.size
  rw [← hty] at hr
  unfold Oper.wp execOp
  simp only [ho, resolve, invoke, builtin, Sem.run_bind, Sem.run_pure, Result.andThen_ok, List.map_toArray, List.map_cons, List.map_nil, hs, hx]
  rw [hty] at hr
  simp only [hty, hr, Result.andThen_ok]
  exact hK _ _ (hk v' w' h2 (hbw.grown h3 hbw.size (fun q e => (hown.lt q e).1)))

end Go.Proofs.Ytjakjnmfndfehaa
