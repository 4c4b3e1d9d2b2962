/-
  The statement Rows.QueueFullSaid: for every input the law QueueFull returns true and its arguments read as they did; no condition.
-/
import Derived.Test.YtnlkioiaodloeaaPart7
import Derived.Test.YtnlkioiaodloeaaPart8
import Derived.Test.YtnlkioiaodloeaaRows
open Go hiding Id
open Go.Proofs Go.PM
namespace Go.Proofs.Ytnlkioiaodloeaa.queueFullRow
open Go.ChangeShapes Go.WideShapes Go.ChangeAt Go.RowKit

theorem int_of {n : Nat} {p : PV} (h : TyP Try.prog n 3 [p]) : ∃ i, (Lit.int .i64 i).wf = true ∧ p = .v (.int .i64 i) := by
  cases n with
  | zero => exact h.elim
  | succ n =>
    simp only [TyP, Try.underlying3] at h
    obtain ⟨i, hw, h⟩ := h
    injection h with h
    exact ⟨i, hw, h⟩

theorem inst {n0 n1 n2 : Nat} {a0 a1 a2 : PV} (t0 : TyP Try.prog n0 3 [a0]) (t1 : TyP Try.prog n1 3 [a1]) (t2 : TyP Try.prog n2 3 [a2]) : PC Try.prog 5 [a0, a1, a2] (.v (.bool true)) := by
  obtain ⟨i, w0, rfl⟩ := int_of t0
  obtain ⟨j, w1, rfl⟩ := int_of t1
  obtain ⟨k, w2, rfl⟩ := int_of t2
  exact QT.c5 i j k (bounds_i64 w0) (bounds_i64 w1) (bounds_i64 w2)

theorem own : ownKnob Try.prog.godebug = none := by kernel_rfl
theorem tiles : tilesB Try.prog = true := by kernel_rfl
theorem laid : laidOutB Try.prog = true := by kernel_rfl

set_option maxRecDepth 100000 in
theorem lifted (os : Os) (started : os.Started) (H : Type) (enc : TypeId × Value → H) :
    ReturnsInHanded {} Try.checked os 5 .any (Rows.queueFullSpec.pre6 enc Try.prog Try.f5 Rows.queueFullRow.domain false) (Rows.queueFullSpec.post enc Try.prog Try.f5 false true false false) := by
  refine returnsInHanded_of_change (C := Try.checked) own started (by kernel_rfl) Try.func5
    (ChangeSpec.witness6 (enc := enc) (C := Try.checked) false ⟨#[], #[.int .i64 0, .int .i64 0, .int .i64 0], []⟩ 8 (by kernel_rfl) (by kernel_rfl) (by kernel_rfl) (by kernel_rfl)) ?_
  intro W base args ds gs before hval0 hW hcnd _
  have hval : ∀ (j : Nat) t v, Try.f5.params[j]? = some t → args[j]? = some v → Value.okWide Try.prog W .any base t v := hval0
  have hW' := hW
  obtain ⟨p, q, hA0, hV, rfl, hfz, hnd⟩ := hW
  have hA : DataW.TrodAll enc Try.prog W 0 (fun _ => true) true Try.f5.params.toList args.toList ds p := hA0
  rw [Try.params5] at hA hval
  obtain ⟨v0, vs0, d0, ds0, p0, q0, hargs, rfl, rfl, h0, r0⟩ := trodAll_cons hA
  obtain ⟨v1, vs1, d1, ds1, p1, q1, rfl, rfl, rfl, h1, r1⟩ := trodAll_cons r0
  obtain ⟨v2, vs2, d2, ds2, p2, q2, rfl, rfl, rfl, h2, r2⟩ := trodAll_cons r1
  obtain ⟨rfl, rfl, rfl⟩ := trodAll_nil r2
  obtain rfl : args = #[v0, v1, v2] := by cases args; simp_all
  obtain ⟨rfl, rfl⟩ := trodVars_none hV
  obtain ⟨n0, a0, ty0, vr0⟩ := arg_cell tiles h0 (ok_int Try.underlying3 (hval 0 3 v0 rfl rfl))
  obtain ⟨n1, a1, ty1, vr1⟩ := arg_cell tiles h1 (ok_int Try.underlying3 (hval 1 3 v1 rfl rfl))
  obtain ⟨n2, a2, ty2, vr2⟩ := arg_cell tiles h2 (ok_int Try.underlying3 (hval 2 3 v2 rfl rfl))
  have hvs : VRs (allF W) noLoc [a0, a1, a2] #[v0, v1, v2] := by
    refine ⟨rfl, fun j z hj => ?_⟩
    match j, hj with
    | 0, hj => injection hj with hj; subst hj; exact vr0
    | 1, hj => injection hj with hj; subst hj; exact vr1
    | 2, hj => injection hj with hj; subst hj; exact vr2
    | j + 3, hj => cases hj
  have hc : PC Try.prog 5 [a0, a1, a2] (.v (.bool true)) := inst ty0 ty1 ty2
  refine (hc (allF W) W _ (fun _ _ _ h => h) hvs).mono ?_
  rintro e W' ⟨v, F', rfl, hb, _, _, _, hv⟩
  cases hv
  refine ⟨_, rfl, law_post laid (by decide +kernel) rfl hW' rfl rfl Try.underlying4 rfl rfl rfl hb⟩

theorem over : Rows.queueFullRow.holds Try.pinned (OpenSpec.ofChange Rows.queueFullSpec) :=
  OpenClaim.holds_of_wide 5 Try.f5 rfl rfl rfl rfl rfl rfl rfl ⟨rfl, rfl, rfl, rfl, rfl⟩ rfl rfl rfl rfl rfl (by kernel_rfl) Try.func5 (by kernel_rfl)
    (of_decide_eq_true (by kernel_rfl)) (by unfold Func.isWrapper; first | (rw [if_pos (by decide +kernel)]; kernel_rfl) | (rw [if_neg (by decide +kernel)]; exact ⟨rfl, rfl⟩))
    (fun os started H enc _ => lifted os started H enc)

/-- The statement. -/
theorem proved : Rows.QueueFullSaid :=
  over
end Go.Proofs.Ytnlkioiaodloeaa.queueFullRow
