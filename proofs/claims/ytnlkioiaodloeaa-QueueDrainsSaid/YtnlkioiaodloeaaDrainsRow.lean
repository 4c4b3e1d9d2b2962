/-
  The statement Rows.QueueDrainsSaid: for every input the law QueueDrains returns true and its arguments read as they did; no condition.
-/
import Derived.Test.YtnlkioiaodloeaaPart7
import Derived.Test.YtnlkioiaodloeaaPart8
import Derived.Test.YtnlkioiaodloeaaRows
open Go hiding Id
open Go.Proofs Go.PM
namespace Go.Proofs.Ytnlkioiaodloeaa.queueDrainsRow
open Go.ChangeShapes Go.WideShapes Go.ChangeAt Go.RowKit

theorem int_of {n : Nat} {p : PV} (h : TyP Try.prog n 3 [p]) : ∃ i, (Lit.int .i64 i).wf = true ∧ p = .v (.int .i64 i) := by
  cases n with
  | zero => exact h.elim
  | succ n =>
    simp only [TyP, Try.underlying3] at h
    obtain ⟨i, hw, h⟩ := h
    injection h with h
    exact ⟨i, hw, h⟩

theorem cells_int {n : Nat} {a : List PV} (hl : a.length = 1) (h : TyP Try.prog n 3 a) : ∃ i, a = [.v (.int .i64 i)] := by
  match a, hl with
  | [p], _ =>
    obtain ⟨i, _, rfl⟩ := int_of h
    exact ⟨i, rfl⟩
theorem op_of {n : Nat} {c : List PV} (h : TyP Try.prog n 28 c) : ∃ o : QT.Op3, c = QT.encO o := by
  cases n with
  | zero => exact h.elim
  | succ n =>
    simp only [TyP, Try.underlying28] at h
    obtain ⟨a1, b1, rfl, l1, t1, a2, b2, rfl, l2, t2, a3, b3, rfl, l3, t3, rfl⟩ := h (by decide +kernel)
    have c3 : Try.prog.cellsOf 3 = 1 := by kernel_rfl
    obtain ⟨i1, rfl⟩ := cells_int (by rw [l1]; exact c3) t1
    obtain ⟨i2, rfl⟩ := cells_int (by rw [l2]; exact c3) t2
    obtain ⟨i3, rfl⟩ := cells_int (by rw [l3]; exact c3) t3
    exact ⟨(i1, i2, i3), rfl⟩
theorem ops_of {n : Nat} {p : PV} (h : TyP Try.prog n 22 [p]) : ∃ ops : List QT.Op3, p = .sl (ops.map QT.encO) := by
  cases n with
  | zero => exact h.elim
  | succ n =>
    simp only [TyP, Try.underlying22] at h
    obtain ⟨es, _, he, hall⟩ := h (by decide +kernel)
    injection he with he
    subst he
    have : ∀ (es : List (List PV)), (∀ c ∈ es, ∃ o : QT.Op3, c = QT.encO o) → ∃ ops : List QT.Op3, es = ops.map QT.encO := by
      intro es
      induction es with
      | nil => intro _; exact ⟨[], rfl⟩
      | cons c r ih =>
        intro h
        obtain ⟨o, rfl⟩ := h c (by simp)
        obtain ⟨ops, rfl⟩ := ih fun c hc => h c (by simp [hc])
        exact ⟨o :: ops, rfl⟩
    obtain ⟨ops, rfl⟩ := this es fun c hc => op_of (hall c hc).2
    exact ⟨ops, rfl⟩

theorem inst {n0 : Nat} {a0 : PV} (t0 : TyP Try.prog n0 22 [a0]) : PC Try.prog 4 [a0] (.v (.bool true)) := by
  obtain ⟨ops, rfl⟩ := ops_of t0
  exact QT.c4 ops

theorem own : ownKnob Try.prog.godebug = none := by kernel_rfl
theorem tiles : tilesB Try.prog = true := by kernel_rfl
theorem laid : laidOutB Try.prog = true := by kernel_rfl

set_option maxRecDepth 100000 in
theorem lifted (os : Os) (started : os.Started) (H : Type) (enc : TypeId × Value → H) :
    ReturnsInHanded {} Try.checked os 4 .any (Rows.queueDrainsSpec.pre6 enc Try.prog Try.f4 Rows.queueDrainsRow.domain false) (Rows.queueDrainsSpec.post enc Try.prog Try.f4 false true false false) := by
  refine returnsInHanded_of_change (C := Try.checked) own started (by kernel_rfl) Try.func4
    (ChangeSpec.witness6 (enc := enc) (C := Try.checked) false ⟨#[], #[.slice none 0 0], []⟩ 8 (by kernel_rfl) (by kernel_rfl) (by kernel_rfl) (by kernel_rfl)) ?_
  intro W base args ds gs before hval0 hW hcnd _
  have hval : ∀ (j : Nat) t v, Try.f4.params[j]? = some t → args[j]? = some v → Value.okWide Try.prog W .any base t v := hval0
  have hW' := hW
  obtain ⟨p, q, hA0, hV, rfl, hfz, hnd⟩ := hW
  have hA : DataW.TrodAll enc Try.prog W 0 (fun _ => true) true Try.f4.params.toList args.toList ds p := hA0
  rw [Try.params4] at hA hval
  obtain ⟨v0, vs0, d0, ds0, p0, q0, hargs, rfl, rfl, h0, r0⟩ := trodAll_cons hA
  obtain ⟨rfl, rfl, rfl⟩ := trodAll_nil r0
  obtain rfl : args = #[v0] := by cases args; simp_all
  obtain ⟨rfl, rfl⟩ := trodVars_none hV
  obtain ⟨n0, a0, ty0, vr0⟩ := arg_cell tiles h0 (ok_slice Try.underlying22 (hval 0 22 v0 rfl rfl))
  have hvs : VRs (allF W) noLoc [a0] #[v0] := by
    refine ⟨rfl, fun j z hj => ?_⟩
    match j, hj with
    | 0, hj => injection hj with hj; subst hj; exact vr0
    | j + 1, hj => cases hj
  have hc : PC Try.prog 4 [a0] (.v (.bool true)) := inst ty0
  refine (hc (allF W) W _ (fun _ _ _ h => h) hvs).mono ?_
  rintro e W' ⟨v, F', rfl, hb, _, _, _, hv⟩
  cases hv
  refine ⟨_, rfl, law_post laid (by decide +kernel) rfl hW' rfl rfl Try.underlying4 rfl rfl rfl hb⟩

theorem over : Rows.queueDrainsRow.holds Try.pinned (OpenSpec.ofChange Rows.queueDrainsSpec) :=
  OpenClaim.holds_of_wide 4 Try.f4 rfl rfl rfl rfl rfl rfl rfl ⟨rfl, rfl, rfl, rfl, rfl⟩ rfl rfl rfl rfl rfl (by kernel_rfl) Try.func4 (by kernel_rfl)
    (of_decide_eq_true (by kernel_rfl)) (by unfold Func.isWrapper; first | (rw [if_pos (by decide +kernel)]; kernel_rfl) | (rw [if_neg (by decide +kernel)]; exact ⟨rfl, rfl⟩))
    (fun os started H enc _ => lifted os started H enc)

/-- The statement. -/
theorem proved : Rows.QueueDrainsSaid :=
  over
end Go.Proofs.Ytnlkioiaodloeaa.queueDrainsRow
