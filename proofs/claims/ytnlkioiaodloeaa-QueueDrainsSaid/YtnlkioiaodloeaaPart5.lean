/- A logic of the model's text over values without addresses, and what the functions that the law reaches come to. Conditions: none. -/
import Derived.Test.YtnlkioiaodloeaaPart3
import Derived.Test.YtnlkioiaodloeaaPart4
section
set_option linter.unusedSimpArgs false
set_option linter.unusedVariables false
set_option linter.constructorNameAsVariable false
/- slices.Clone of a queue's items. Printed in part by a program. -/
open Go hiding Id
open Go.Proofs Go.PM
set_option linter.unusedSimpArgs false
set_option linter.unusedVariables false
namespace QT
attribute [local irreducible] PW FL FR FS FB FM FG CallF CallS PC PCS bindK condK

theorem c24_nil {σ : Sto} (id : PM.Id) : PCS Try.prog id 24 [.nilS] σ (fun r σ' => r = .nilS ∧ σ' = σ) := by
  refine PCS.of Try.func24 rfl (by simp) ⟨_, _, rfl, rfl⟩ fun hfr => ?_
  show PW _ _ _ _ ⟨entry _, σ, 0⟩ _
  repeat' first
    | (refine PW.seq ?_)
    | (refine PW.rg (Mof []) mixed (by kernel_rfl) ?_; simp [pEqNil])
    | (refine PW.skip ?_; simp)
    | (refine PW.ret ?_; simp [pEqNil]; done)
    | (refine PW.ret ?_; simp [pEqNil])
    | (refine PW.exit ?_; simp)
    | (refine PW.condV ?_; simp [pEqNil])
    | (refine PW.block ?_)
    | (refine And.intro ?_ ?_)
    | (with_reducible intro _)


theorem c24_more {σ : Sto} (id ii : PM.Id) {n : Nat} {l : List It} {rest : List (List PV)} (hn : l.length = n + 1) (hσ : σ ii = some (.cells (l.map encI ++ rest) true)) (hmax : l.length ≤ 100000) :
    PCS Try.prog id 24 [.own ii 40 0 (n + 1)] σ (fun r σ' => r = .own (2 :: 2 :: id) 40 0 (n + 1) ∧ σ' = upd σ (2 :: 2 :: id) (some (.cells (l.map encI) true))) := by
  refine PCS.of Try.func24 rfl (by simp) ⟨_, _, rfl, rfl⟩ fun hfr => ?_
  show PW _ _ _ _ ⟨entry _, σ, 0⟩ _
  have fi := fresh_ne hfr hσ
  have hlen : n + 1 ≤ (l.map encI ++ rest).length := by simp; omega
  have htk : (l.map encI ++ rest).take (n + 1) = l.map encI := by
    rw [List.take_append_of_le_length (by simp; omega), List.take_of_length_le (by simp; omega)]
  have hb : (n + 1) * 16 ≤ 140737488355328 := by omega
  generalize hE : l.map encI ++ rest = es at hσ hlen htk
  repeat' first
    | (refine PW.seq ?_)
    | (refine PW.rg (Mof []) mixed (by kernel_rfl) ?_; simp [pEqNil, hσ, fi, hlen, htk, hb, hn, pAppend, pBuildSlice, elemsOf, List.replicate, List.range, List.range.loop])
    | (refine PW.skip ?_; simp)
    | (refine PW.ret ?_; simp [pEqNil, hσ, fi, hlen, htk, hb, hn, pAppend, pBuildSlice, elemsOf, List.replicate, List.range, List.range.loop]; done)
    | (refine PW.ret ?_; simp [pEqNil, hσ, fi, hlen, htk, hb, hn, pAppend, pBuildSlice, elemsOf, List.replicate, List.range, List.range.loop])
    | (refine PW.exit ?_; simp)
    | (refine PW.condV ?_; simp [pEqNil, hσ, fi, hlen, htk, hb, hn, pAppend, pBuildSlice, elemsOf, List.replicate, List.range, List.range.loop])
    | (refine PW.block ?_)
    | (refine And.intro ?_ ?_)
    | (with_reducible intro _)

  rename_i jj B hB
  by_cases e1 : jj = 2 :: 2 :: id
  · simpa [e1] using hB
  simp only [e1, if_false] at hB ⊢
  have g1 : jj ≠ 0 :: 2 :: id := by
    rintro rfl
    rw [hfr (0 :: 2 :: id) ⟨[0, 2], rfl⟩] at hB
    cases hB
  simpa [g1] using hB

theorem c24_zero {σ : Sto} (id ii : PM.Id) {es : List (List PV)} (hσ : σ ii = some (.cells es true)) :
    PCS Try.prog id 24 [.own ii 40 0 0] σ (fun r σ' => (r = .nilS ∧ σ' = σ) ∨ (r = .own (2 :: 2 :: id) 40 0 0 ∧ σ' = upd σ (2 :: 2 :: id) (some (.cells [] true)))) := by
  refine PCS.of Try.func24 rfl (by simp) ⟨_, _, .inl ⟨rfl, rfl⟩⟩ fun hfr => ?_
  show PW _ _ _ _ ⟨entry _, σ, 0⟩ _
  have fi := fresh_ne hfr hσ
  refine PW.seq ?_
  refine PW.rg (Mof []) mixed (by kernel_rfl) ?_
  simp
  refine PW.seq (PW.seq (PW.two (Mof []) (by kernel_rfl) ?_))
  refine PStepN.fs ?_
  simp
  refine PStepN.two (by simp [twoWays]) (fun b => ?_)
  show PW _ _ _ _ _ _
  refine PW.condV ?_
  simp
  refine ⟨fun hb => ?_, fun hb => ?_⟩
  · repeat' first
      | (refine PW.seq ?_)
      | (refine PW.rg (Mof []) mixed (by kernel_rfl) ?_; simp [hσ, fi, pAppend, pBuildSlice, elemsOf, List.replicate, List.range, List.range.loop])
      | (refine PW.skip ?_; simp)
      | (refine PW.ret ?_; simp [hσ, fi, pAppend, pBuildSlice, elemsOf, List.replicate, List.range, List.range.loop]; done)
      | (refine PW.ret ?_; simp [hσ, fi, pAppend, pBuildSlice, elemsOf, List.replicate, List.range, List.range.loop])
      | (refine PW.exit ?_; simp)
      | (refine PW.condV ?_; simp [hσ, fi, pAppend, pBuildSlice, elemsOf, List.replicate, List.range, List.range.loop])
      | (refine PW.block ?_)
      | (refine And.intro ?_ ?_)
      | (with_reducible intro _)

  · repeat' first
      | (refine PW.seq ?_)
      | (refine PW.rg (Mof []) mixed (by kernel_rfl) ?_; simp [hσ, fi, pAppend, pBuildSlice, elemsOf, List.replicate, List.range, List.range.loop])
      | (refine PW.skip ?_; simp)
      | (refine PW.ret ?_; simp [hσ, fi, pAppend, pBuildSlice, elemsOf, List.replicate, List.range, List.range.loop]; done)
      | (refine PW.ret ?_; simp [hσ, fi, pAppend, pBuildSlice, elemsOf, List.replicate, List.range, List.range.loop])
      | (refine PW.exit ?_; simp)
      | (refine PW.condV ?_; simp [hσ, fi, pAppend, pBuildSlice, elemsOf, List.replicate, List.range, List.range.loop])
      | (refine PW.block ?_)
      | (refine And.intro ?_ ?_)
      | (with_reducible intro _)

    rename_i jj B hB
    by_cases e1 : jj = 2 :: 2 :: id
    · simpa [e1] using hB
    simp only [e1, if_false] at hB ⊢
    have g1 : jj ≠ 0 :: 2 :: id := by
      rintro rfl
      rw [hfr (0 :: 2 :: id) ⟨[0, 2], rfl⟩] at hB
      cases hB
    simpa [g1] using hB
end QT
end

