/- A logic of the model's text over values without addresses, and what the functions that the law reaches come to. Conditions: none. -/
import Derived.Test.YtnlkioiaodloeaaPart3
import Derived.Test.YtnlkioiaodloeaaPart5
import Derived.Test.YtnlkioiaodloeaaPart6
section
set_option linter.unusedSimpArgs false
set_option linter.unusedVariables false
set_option linter.constructorNameAsVariable false
/- slices.SortFunc at the queue's items. -/
namespace Go.Proofs
open Go.Shelf
def Try.sortL_ren : Go.Shelf.Ren := ⟨fun | 6 => 25 | 15 => 36 | 14 => 35 | 28 => 50 | 29 => 51 | 20 => 42 | 21 => 43 | 22 => 44 | 23 => 45 | 24 => 46 | 25 => 47 | 26 => 48 | 27 => 49 | 46 => 53 | 47 => 54 | 48 => 55 | 49 => 56 | 50 => 57 | 57 => 58 | n => n, fun | 22 => 32 | 24 => 40 | 25 => 60 | 3 => 3 | 39 => 72 | 0 => 0 | 53 => 90 | 55 => 92 | 4 => 4 | 46 => 84 | 45 => 83 | 50 => 64 | 5 => 5 | 9 => 9 | 66 => 94 | 70 => 98 | 76 => 100 | 77 => 101 | n => n, fun | n => n⟩
theorem Try.sortL : Go.Proofs.SlLaysF0.n6 Try.prog Try.sortL_ren := {
  mixed := by kernel_rfl,
  f6 := ⟨Try.f25.name, by decide, Try.func25.trans (congrArg some (by kernel_rfl))⟩,
  f14 := ⟨Try.f35.name, by decide, Try.func35.trans (congrArg some (by kernel_rfl))⟩,
  f15 := Try.func36.trans (congrArg some (by kernel_rfl)),
  f20 := ⟨Try.f42.name, by decide, Try.func42.trans (congrArg some (by kernel_rfl))⟩,
  f21 := ⟨Try.f43.name, by decide, Try.func43.trans (congrArg some (by kernel_rfl))⟩,
  f22 := ⟨Try.f44.name, by decide, Try.func44.trans (congrArg some (by kernel_rfl))⟩,
  f23 := ⟨Try.f45.name, by decide, Try.func45.trans (congrArg some (by kernel_rfl))⟩,
  f24 := ⟨Try.f46.name, by decide, Try.func46.trans (congrArg some (by kernel_rfl))⟩,
  f25 := ⟨Try.f47.name, by decide, Try.func47.trans (congrArg some (by kernel_rfl))⟩,
  f26 := ⟨Try.f48.name, by decide, Try.func48.trans (congrArg some (by kernel_rfl))⟩,
  f27 := ⟨Try.f49.name, by decide, Try.func49.trans (congrArg some (by kernel_rfl))⟩,
  f28 := Try.func50.trans (congrArg some (by kernel_rfl)),
  f29 := Try.func51.trans (congrArg some (by kernel_rfl)),
  f46 := ⟨Try.f53.name, by decide, Try.func53.trans (congrArg some (by kernel_rfl))⟩,
  f47 := Try.func54.trans (congrArg some (by kernel_rfl)),
  f48 := Try.func55.trans (congrArg some (by kernel_rfl)),
  f49 := ⟨Try.f56.name, by decide, Try.func56.trans (congrArg some (by kernel_rfl))⟩,
  f50 := ⟨Try.f57.name, by decide, Try.func57.trans (congrArg some (by kernel_rfl))⟩,
  f57 := ⟨Try.f58.name, by decide, Try.func58.trans (congrArg some (by kernel_rfl))⟩,
  t0 := Try.underlying0,
  a0 := Try.isAgg0,
  z0 := Try.sizeOf0,
  v0 := Try.zeroValue0,
  t3 := Try.underlying3,
  a3 := Try.isAgg3,
  z3 := Try.sizeOf3,
  v3 := Try.zeroValue3,
  t4 := Try.underlying4,
  a4 := Try.isAgg4,
  z4 := Try.sizeOf4,
  v4 := Try.zeroValue4,
  t5 := Try.underlying5,
  a5 := Try.isAgg5,
  z5 := Try.sizeOf5,
  v5 := Try.zeroValue5,
  t9 := Try.underlying9,
  a9 := Try.isAgg9,
  z9 := Try.sizeOf9,
  v9 := Try.zeroValue9,
  t22 := Try.underlying32,
  a22 := Try.isAgg32,
  z22 := Try.sizeOf32,
  v22 := Try.zeroValue32,
  t25 := Try.underlying60,
  a25 := Try.isAgg60,
  z25 := Try.sizeOf60,
  v25 := Try.zeroValue60,
  t39 := Try.underlying72,
  a39 := Try.isAgg72,
  z39 := Try.sizeOf72,
  v39 := Try.zeroValue72,
  t45 := Try.underlying83,
  a45 := Try.isAgg83,
  z45 := Try.sizeOf83,
  v45 := Try.zeroValue83,
  t46 := Try.underlying84,
  a46 := Try.isAgg84,
  z46 := Try.sizeOf84,
  v46 := Try.zeroValue84,
  t50 := Try.underlying64,
  a50 := Try.isAgg64,
  z50 := Try.sizeOf64,
  v50 := Try.zeroValue64,
  t53 := Try.underlying90,
  a53 := Try.isAgg90,
  z53 := Try.sizeOf90,
  v53 := Try.zeroValue90,
  t55 := Try.underlying92,
  a55 := Try.isAgg92,
  z55 := Try.sizeOf92,
  v55 := Try.zeroValue92,
  t66 := Try.underlying94,
  a66 := Try.isAgg94,
  z66 := Try.sizeOf94,
  v66 := Try.zeroValue94,
  t70 := Try.underlying98,
  a70 := Try.isAgg98,
  z70 := Try.sizeOf98,
  v70 := Try.zeroValue98,
  t76 := Try.underlying100,
  a76 := Try.isAgg100,
  z76 := Try.sizeOf100,
  v76 := Try.zeroValue100,
  t77 := Try.underlying101,
  a77 := Try.isAgg101,
  z77 := Try.sizeOf101,
  v77 := Try.zeroValue101 }
end Go.Proofs
open Go hiding Id
open Go.Proofs Go.PM Go.Sort Go.Shelf
set_option linter.unusedSimpArgs false
set_option linter.unusedVariables false
namespace QT

def encV (x : It) : List Value := [.int .i64 x.1, .int .i64 x.2]
theorem vs_encV (x : It) : vs (encV x) = encI x := rfl
theorem ltOf_cmpI (x y : It) : ltOf cmpI x y = decide (aheadP x y) := by
  unfold ltOf
  simp only [lt_iff]
theorem swoI : SWO (ltOf cmpI) where
  irrefl x := by rw [ltOf_cmpI]; simp [aheadP]
  trans x y z h1 h2 := by
    simp only [ltOf_cmpI, decide_eq_true_eq] at h1 h2 ⊢
    unfold aheadP at *
    omega
  ntrans x y z h1 h2 := by
    simp only [ltOf_cmpI, decide_eq_false_iff_not] at h1 h2 ⊢
    unfold aheadP at *
    omega
theorem totI (x y : It) (h1 : ltOf cmpI x y = false) (h2 : ltOf cmpI y x = false) : x = y := by
  simp only [ltOf_cmpI, decide_eq_false_iff_not] at h1 h2
  unfold aheadP at *
  apply Prod.ext <;> omega

/-- The items in their order. -/
def sortI (l : List It) : List It := l.mergeSort fun x y => !ltOf cmpI y x

theorem c25 {σ : Sto} {id ii : PM.Id} {e : TypeId} {l : List It} {rest : List (List PV)} (hσ : σ ii = some (.cells (l.map encI ++ rest) true)) (hlen : l.length ≤ 100000) :
    PCS Try.prog id 25 [.own ii e 0 l.length, .fn (.func 26) [] []] σ (fun r σ' => r = .tup [] ∧ σ' = upd σ ii (some (.cells ((sortI l).map encI ++ rest) true))) := by
  have eg : ∀ args w, (callFunc 26 args).run Try.prog w = .ok (.enter 26 args) w := enters_of Try.func26 (by kernel_rfl) rfl
  refine PCS.sort (f := 25) (g := 26) (k := 2) (by decide) encV (fun _ => rfl) cmpI (fun x y => !ltOf cmpI y x) ?_ ?_ (fun x y => c26' x y) hσ (by omega)
  · intro blk off cap d w hcmp hH hblk hsz
    exact AnyQ.slices_SortFunc_total Try.sortL 2 Try.isAgg40 Try.sizeOf40 encV (fun _ => rfl) (fun x v hv => by simp [encV] at hv; rcases hv with rfl | rfl <;> rfl) cmpI swoI 26 #[] blk off cap d w eg hcmp hH hblk hsz totI
  · intro p cap fv w
    exact AnyF.slices_SortFunc_none { Try.sortL with } p cap fv w

theorem c25_nil {σ : Sto} {id : PM.Id} : PCS Try.prog id 25 [.nilS, .fn (.func 26) [] []] σ (fun r σ' => r = .tup [] ∧ σ' = σ) := by
  refine ⟨⟨_, _, rfl, rfl⟩, fun base F ι w vals hm hfr hv => ?_⟩
  obtain ⟨hs, hvs⟩ := hv
  have h0 := hvs 0 _ rfl
  obtain ⟨a, c, rfl⟩ : ∃ a c, vals = #[a, c] := by
    match vals, hs with
    | ⟨[a, c]⟩, _ => exact ⟨a, c, rfl⟩
  simp at h0
  cases h0
  refine (AnyF.slices_SortFunc_none { Try.sortL with } none 0 c w).mono ?_
  rintro e' w' ⟨rfl, rfl⟩
  exact ⟨_, F, ι, _, σ, rfl, ⟨rfl, rfl⟩, .tup _ _ _ rfl fun j p h => by simp at h, hm, GrowB.refl _ _ _, PM.Below.refl _ _, fun j _ => ⟨rfl, fun h => h⟩⟩

theorem sortI_perm (l : List It) : (sortI l).Perm l := List.mergeSort_perm l _
theorem sortI_sorted (l : List It) : (sortI l).Pairwise leI := by
  have h : ∀ x y : It, (!ltOf cmpI y x) = decide (leI x y) := fun x y => by
    rw [ltOf_cmpI]
    by_cases h : aheadP y x
    · rw [decide_eq_true h, decide_eq_false (by unfold aheadP at h; unfold leI; omega)]; rfl
    · rw [decide_eq_false h, decide_eq_true (by unfold aheadP at h; unfold leI; omega)]; rfl
  have := List.pairwise_mergeSort (le := fun x y : It => !ltOf cmpI y x) (fun a b c h1 h2 => by
    rw [h] at h1 h2 ⊢; simp only [decide_eq_true_eq] at *; exact leI_trans h1 h2) (fun a b => by
    rw [h, h]; simp only [Bool.or_eq_true, decide_eq_true_eq]; exact leI_total a b) l
  exact this.imp fun {a b} hab => by rw [h] at hab; simpa using hab
theorem sorted_eq {l l' : List It} (h : l.Pairwise leI) (h' : l'.Pairwise leI) (p : l.Perm l') : l = l' :=
  p.eq_of_pairwise (fun a b _ _ h1 h2 => leI_anti h1 h2) h h'

end QT
end

section
set_option linter.unusedSimpArgs false
set_option linter.unusedVariables false
set_option linter.constructorNameAsVariable false
/- The queue's Items. Printed in part by a program. -/
open Go hiding Id
open Go.Proofs Go.PM
set_option linter.unusedSimpArgs false
set_option linter.unusedVariables false
namespace QT
attribute [local irreducible] PW FL FR FS FB FM FG CallF CallS PC PCS bindK condK
section
variable {σ : Sto} {q ii im : PM.Id} {it : PV} {rest : List (List PV)} {mk : List (Int × Nat)} {clk : Nat} {l : List It}

theorem c11 (h : QS σ q ii im it rest mk clk l) (id : PM.Id) (hmax : l.length ≤ 100000) :
    PCS Try.prog id 11 [.ptr q 0 0] σ (fun r σ' => (l = [] ∧ r = .nilS ∧ σ' = σ) ∨ (r = .own (2 :: 2 :: 5 :: 2 :: id) 40 0 l.length ∧ σ' = upd σ (2 :: 2 :: 5 :: 2 :: id) (some (.cells ((sortI l).map encI) true)))) := by
  refine PCS.of Try.func11 rfl (by simp) ⟨_, _, .inr ⟨rfl, rfl⟩⟩ fun hfr => ?_
  show PW _ _ _ _ ⟨entry _, σ, 0⟩ _
  have hq := h.hq
  rcases h.hit with ⟨rfl, rfl⟩ | ⟨rfl, hσ⟩
  · have c1 := c24_nil (σ := σ) (5 :: 2 :: id)
    have c2 := c25_nil (σ := σ) (id := 1 :: 3 :: id)
    repeat' first
      | (refine PW.seq ?_)
      | (refine PW.rg (Mof []) mixed (by kernel_rfl) ?_; simp [hq, pEqNil])
      | (refine PW.skip ?_; simp)
      | (refine PW.ret ?_; simp [hq, pEqNil]; done)
      | (refine PW.ret ?_; simp [hq, pEqNil])
      | (refine PW.exit ?_; simp)
      | (refine PW.condV ?_; simp [hq, pEqNil])
      | (refine PW.block ?_)
      | (refine CallS.of (c1) ?_; rintro _ _ ⟨rfl, rfl⟩; simp [hq, pEqNil])
      | (refine CallS.of (c2) ?_; rintro _ _ ⟨rfl, rfl⟩; simp [hq, pEqNil])
      | (refine And.intro ?_ ?_)
      | (with_reducible intro _)

  · by_cases h0 : l = []
    · subst h0
      have c1 := c24_zero (σ := σ) (5 :: 2 :: id) ii hσ
      have c2 := c25_nil (σ := σ) (id := 1 :: 3 :: id)
      have c3 := c25 (σ := upd σ (2 :: 2 :: 5 :: 2 :: id) (some (.cells [] true))) (id := 1 :: 3 :: id) (ii := 2 :: 2 :: 5 :: 2 :: id) (e := 40) (l := []) (rest := []) (by simp) (by simp)
      simp only [List.length_nil] at c3
      repeat' first
        | (refine PW.seq ?_)
        | (refine PW.rg (Mof []) mixed (by kernel_rfl) ?_; simp [hq, pEqNil])
        | (refine PW.skip ?_; simp)
        | (refine PW.ret ?_; simp [hq, pEqNil]; done)
        | (refine PW.ret ?_; simp [hq, pEqNil])
        | (refine PW.exit ?_; simp)
        | (refine PW.condV ?_; simp [hq, pEqNil])
        | (refine PW.block ?_)
        | (refine CallS.of c1 ?_; rintro _ _ (⟨rfl, rfl⟩ | ⟨rfl, rfl⟩) <;> simp [hq, pEqNil])
        | (refine CallS.of c2 ?_; rintro _ _ ⟨rfl, rfl⟩; simp [hq, pEqNil])
        | (refine CallS.of c3 ?_; rintro _ _ ⟨rfl, rfl⟩; simp [hq, pEqNil])
        | (refine And.intro ?_ ?_)
        | (with_reducible intro _)
      all_goals (rename_i jj B hB; by_cases e : jj = 2 :: 2 :: 5 :: 2 :: id <;> simpa [e] using hB)
    · obtain ⟨n, hl⟩ : ∃ n, l.length = n + 1 := ⟨l.length - 1, by have := List.length_pos_iff.2 h0; omega⟩
      have c1 := c24_more (σ := σ) (5 :: 2 :: id) ii hl hσ hmax
      have c3 := c25 (σ := upd σ (2 :: 2 :: 5 :: 2 :: id) (some (.cells (l.map encI) true))) (id := 1 :: 3 :: id) (ii := 2 :: 2 :: 5 :: 2 :: id) (e := 40) (l := l) (rest := []) (by simp) hmax
      rw [hl] at c3
      repeat' first
        | (refine PW.seq ?_)
        | (refine PW.rg (Mof []) mixed (by kernel_rfl) ?_; simp [hq, hl, pEqNil])
        | (refine PW.skip ?_; simp)
        | (refine PW.ret ?_; simp [hq, hl, pEqNil]; done)
        | (refine PW.ret ?_; simp [hq, hl, pEqNil])
        | (refine PW.exit ?_; simp)
        | (refine PW.condV ?_; simp [hq, hl, pEqNil])
        | (refine PW.block ?_)
        | (refine CallS.of (c1) ?_; rintro _ _ ⟨rfl, rfl⟩; simp [hq, hl, pEqNil])
        | (refine CallS.of (c3) ?_; rintro _ _ ⟨rfl, rfl⟩; simp [hq, hl, pEqNil])
        | (refine And.intro ?_ ?_)
        | (with_reducible intro _)

      all_goals (rename_i jj B hB; by_cases e : jj = 2 :: 2 :: 5 :: 2 :: id <;> simpa [e] using hB)
end
end QT
end

section
set_option linter.unusedSimpArgs false
set_option linter.unusedVariables false
set_option linter.constructorNameAsVariable false
/- The queue as a list in order: what the calls do to it. -/
open Go hiding Id
open Go.Proofs Go.PM
namespace QT
attribute [local irreducible] PW FL FR FS FB FM FG CallF CallS PC PCS bindK condK

/-! ### Lists in order -/
theorem withL_cons (y : It) (r : List It) (x : It) : withL (y :: r) x = if aheadP y x then y :: withL r x else x :: y :: r := by
  unfold withL
  by_cases h : aheadP y x
  · simp [posL, h]
  · simp [posL, h]
theorem withL_perm : ∀ (l : List It) (x : It), (withL l x).Perm (x :: l)
  | [], x => by simp [withL, posL]
  | y :: r, x => by
    rw [withL_cons]
    split
    · exact ((withL_perm r x).cons y).trans (List.Perm.swap _ _ _)
    · exact List.Perm.refl _
theorem withL_len (l : List It) (x : It) : (withL l x).length = l.length + 1 := (withL_perm l x).length_eq
theorem leI_of_ahead {x y : It} (h : aheadP x y) : leI x y := leI_of_lt ((lt_iff x y).2 h)
theorem leI_of_not_ahead {x y : It} (h : ¬ aheadP x y) : leI y x := leI_of_not (fun e => h ((lt_iff x y).1 e))
theorem withL_sorted : ∀ {l : List It} (x : It), l.Pairwise leI → (withL l x).Pairwise leI
  | [], x, _ => by simp [withL, posL]
  | y :: r, x, h => by
    rw [withL_cons]
    rw [List.pairwise_cons] at h
    split
    · rename_i ha
      rw [List.pairwise_cons]
      refine ⟨fun z hz => ?_, withL_sorted x h.2⟩
      rcases List.mem_cons.1 ((withL_perm r x).mem_iff.1 hz) with rfl | hz
      · exact leI_of_ahead ha
      · exact h.1 z hz
    · rename_i ha
      have hxy := leI_of_not_ahead ha
      rw [List.pairwise_cons]
      refine ⟨fun z hz => ?_, List.pairwise_cons.2 h⟩
      rcases List.mem_cons.1 hz with rfl | hz
      · exact hxy
      · exact leI_trans hxy (h.1 z hz)

/-- Without the items of that number. -/
def outK (l : List It) (k : Int) : List It := l.filter fun x => x.1 != k
theorem outK_perm {l l' : List It} (h : l.Perm l') (k : Int) : (outK l k).Perm (outK l' k) := h.filter _
theorem outK_sorted {l : List It} (h : l.Pairwise leI) (k : Int) : (outK l k).Pairwise leI := h.filter _
theorem outK_self {l : List It} {k : Int} (h : k ∉ l.map (·.1)) : outK l k = l := by
  unfold outK
  rw [List.filter_eq_self]
  intro x hx
  have : x.1 ≠ k := fun e => h (e ▸ List.mem_map_of_mem hx)
  simpa using this
theorem outK_one {h : List It} {x : It} {r : List It} (hn : (h.map (·.1)).Nodup) (hp : h.Perm (x :: r)) : (outK h x.1).Perm r := by
  refine (outK_perm hp x.1).trans ?_
  have h1 : ((x :: r).map (·.1)).Nodup := (hp.map (·.1)).nodup_iff.1 hn
  simp only [List.map_cons, List.nodup_cons] at h1
  have : outK (x :: r) x.1 = outK r x.1 := by simp [outK]
  rw [this, outK_self h1.1]

theorem placeF_in : ∀ {l : List It} {k : Int} (i : Nat), k ∈ l.map (·.1) → ∃ j, j < l.length ∧ placeF l k i = ((i + j : Nat) : Int) ∧ (∃ h : j < l.length, l[j].1 = k) ∧ ((l.map (·.1)).Nodup → l.take j ++ l.drop (j + 1) = outK l k)
  | x :: r, k, i, h => by
    by_cases hx : x.1 = k
    · refine ⟨0, by simp, by simp [placeF, hx], ⟨by simp, by simpa using hx⟩, fun hn => ?_⟩
      simp only [List.map_cons, List.nodup_cons] at hn
      have : outK (x :: r) k = outK r k := by simp [outK, hx]
      rw [this, outK_self (by rw [← hx]; exact hn.1)]
      simp
    · have hr : k ∈ r.map (·.1) := by
        rw [List.map_cons] at h
        rcases List.mem_cons.1 h with e | e
        · exact absurd e.symm hx
        · exact e
      obtain ⟨j, h1, h2, ⟨h3, h4⟩, h5⟩ := placeF_in (i + 1) hr
      refine ⟨j + 1, by simp; omega, by rw [placeF, if_neg hx, h2]; congr 1; omega, ⟨by simp; omega, by simpa using h4⟩, fun hn => ?_⟩
      simp only [List.map_cons, List.nodup_cons] at hn
      have : outK (x :: r) k = x :: outK r k := by simp [outK, hx]
      rw [this, ← h5 hn.2]
      simp
theorem placeF_out : ∀ {l : List It} {k : Int} (i : Nat), k ∉ l.map (·.1) → placeF l k i = -1
  | [], k, i, _ => rfl
  | x :: r, k, i, h => by
    simp only [List.map_cons, List.mem_cons, not_or] at h
    rw [placeF, if_neg (fun e => h.1 e.symm)]
    exact placeF_out (i + 1) h.2

/-! ### What the calls answer -/
def hasL (l : List It) (k : Int) : Bool := decide (k ∈ l.map (·.1))
def pushR (l : List It) (x : It) : Int := if x.1 ∈ l.map (·.1) then 6 else if 4096 ≤ l.length then 10 else 0
def pushL (l : List It) (x : It) : List It := if x.1 ∈ l.map (·.1) then l else if 4096 ≤ l.length then l else withL l x
def fixR (l : List It) (k : Int) : Int := if k ∈ l.map (·.1) then 0 else 9
def fixI (l : List It) (k key : Int) : List It := if k ∈ l.map (·.1) then withL (outK l k) (k, key) else l
def rmI (l : List It) (k : Int) : List It := if k ∈ l.map (·.1) then outK l k else l
def headV (l : List It) : It := l.headD (0, 0)
def headR (l : List It) : Int := if l = [] then 9 else 0

/-! ### The store -/
/-- The queue at q is the list l; F: its blocks. -/
def QA (σ : Sto) (q : PM.Id) (F : PM.Id → Prop) (l : List It) : Prop :=
  ∃ ii im it rest mk clk h, QS σ q ii im it rest mk clk h ∧ Heap h h.length ∧ h.Perm l ∧ l.Pairwise leI ∧ l.length ≤ 4096 ∧ F = fun j => j = q ∨ j = im ∨ j = ii

/-- What a call at id may have touched. -/
structure Stp (id : PM.Id) (σ : Sto) (F : PM.Id → Prop) (σ' : Sto) (F' : PM.Id → Prop) : Prop where
  f : ∀ j, F' j → F j ∨ id <:+ j
  s : ∀ j, ¬ F j → ¬ id <:+ j → σ' j = σ j

theorem Stp.refl (id : PM.Id) (σ : Sto) (F : PM.Id → Prop) : Stp id σ F σ F := ⟨fun _ h => .inl h, fun _ _ _ => rfl⟩

/-- Another store, the queue's blocks the same. -/
theorem QA.congr {σ σ' : Sto} {q : PM.Id} {F : PM.Id → Prop} {l : List It} (h : QA σ q F l) (hs : ∀ j, F j → σ' j = σ j) : QA σ' q F l := by
  obtain ⟨ii, im, it, rest, mk, clk, h, hq, hh, hp, hl, hn, rfl⟩ := h
  have h1 := hs q (.inl rfl)
  have h2 := hs im (.inr (.inl rfl))
  have h3 := hs ii (.inr (.inr rfl))
  refine ⟨ii, im, it, rest, mk, clk, h, ⟨h1.trans hq.hq, h2.trans hq.hm, hq.minv, ?_, hq.ne, hq.ne1, hq.ne2⟩, hh, hp, hl, hn, rfl⟩
  rcases hq.hit with a | ⟨a, b⟩
  · exact .inl a
  · exact .inr ⟨a, h3.trans b⟩

theorem QA.nodup {σ : Sto} {q : PM.Id} {F : PM.Id → Prop} {l : List It} (h : QA σ q F l) : (l.map (·.1)).Nodup := by
  obtain ⟨ii, im, it, rest, mk, clk, h, hq, hh, hp, hl, hn, rfl⟩ := h
  exact (hp.map _).nodup_iff.1 hq.minv.nodup
theorem QA.sorted {σ : Sto} {q : PM.Id} {F : PM.Id → Prop} {l : List It} (h : QA σ q F l) : l.Pairwise leI := by
  obtain ⟨ii, im, it, rest, mk, clk, h, hq, hh, hp, hl, hn, rfl⟩ := h
  exact hl
theorem QA.len {σ : Sto} {q : PM.Id} {F : PM.Id → Prop} {l : List It} (h : QA σ q F l) : l.length ≤ 4096 := by
  obtain ⟨ii, im, it, rest, mk, clk, h, hq, hh, hp, hl, hn, rfl⟩ := h
  exact hn
theorem QA.q {σ : Sto} {q : PM.Id} {F : PM.Id → Prop} {l : List It} (h : QA σ q F l) : F q := by
  obtain ⟨ii, im, it, rest, mk, clk, h, hq, hh, hp, hl, hn, rfl⟩ := h
  exact .inl rfl

theorem und (id l : PM.Id) : id <:+ l ++ id := ⟨l, rfl⟩

theorem a8 {σ : Sto} (id : PM.Id) : PCS Try.prog id 8 [] σ (fun r σ' => r = .ptr (3 :: 1 :: id) 0 0 ∧ ∃ F, QA σ' (3 :: 1 :: id) F [] ∧ Stp id σ (fun _ => False) σ' F) := by
  refine (c8 (σ := σ) id).mono ?_
  rintro r σ' ⟨rfl, rfl⟩
  refine ⟨rfl, _, ⟨9 :: 1 :: id, 0 :: 1 :: id, .nilS, [], [], 0, [], QS.new σ id, fun k _ h => by simp at h, List.Perm.refl _, List.Pairwise.nil, by simp, rfl⟩, ⟨?_, ?_⟩⟩
  · rintro j (rfl | rfl | rfl)
    · exact .inr (und id [3, 1])
    · exact .inr (und id [0, 1])
    · exact .inr (und id [9, 1])
  · intro j _ hj
    have h1 : j ≠ 0 :: 1 :: id := by rintro rfl; exact hj (und id [0, 1])
    have h2 : j ≠ 3 :: 1 :: id := by rintro rfl; exact hj (und id [3, 1])
    simp [newS, h1, h2]

section
variable {σ : Sto} {q : PM.Id} {F : PM.Id → Prop} {l : List It}

theorem a12 (h : QA σ q F l) (id : PM.Id) : PCS Try.prog id 12 [.ptr q 0 0] σ (fun r σ' => r = .v (.int .i64 l.length) ∧ σ' = σ) := by
  obtain ⟨ii, im, it, rest, mk, clk, h, hq, hh, hp, hl, hn, rfl⟩ := h
  rw [← hp.length_eq]
  exact c12 hq id

theorem a15 (h : QA σ q F l) (id : PM.Id) (k : Int) : PCS Try.prog id 15 [.ptr q 0 0, .v (.int .i64 k)] σ (fun r σ' => r = .v (.bool (hasL l k)) ∧ σ' = σ) := by
  obtain ⟨ii, im, it, rest, mk, clk, h, hq, hh, hp, hl, hn, rfl⟩ := h
  have e : hasL l k = decide (k ∈ h.map (·.1)) := by
    unfold hasL
    exact decide_eq_decide.2 (hp.map _).mem_iff.symm
  rw [e]
  exact c15 hq id k

theorem a13 (h : QA σ q F l) (id : PM.Id) (hN : ∀ j, F j → ¬ id <:+ j) (x : It) :
    PCS Try.prog id 13 [.ptr q 0 0, .v (.int .i64 x.1), .v (.int .i64 x.2)] σ (fun r σ' => r = .v (.int .i64 (pushR l x)) ∧ ∃ F', QA σ' q F' (pushL l x) ∧ Stp id σ F σ' F') := by
  have h0 := h
  obtain ⟨ii, im, it, rest, mk, clk, h, hq, hh, hp, hl, hn, rfl⟩ := h
  have hmem := (hp.map (·.1)).mem_iff (a := x.1)
  unfold pushR pushL
  by_cases h1 : x.1 ∈ l.map (·.1)
  · rw [if_pos h1, if_pos h1]
    refine (c13_has hq id x (hmem.2 h1)).mono ?_
    rintro r σ' ⟨rfl, rfl⟩
    exact ⟨rfl, _, h0, Stp.refl _ _ _⟩
  rw [if_neg h1, if_neg h1]
  by_cases h2 : 4096 ≤ l.length
  · rw [if_pos h2, if_pos h2]
    refine (c13_full hq id x (fun e => h1 (hmem.1 e)) (by rw [hp.length_eq]; exact h2)).mono ?_
    rintro r σ' ⟨rfl, rfl⟩
    exact ⟨rfl, _, h0, Stp.refl _ _ _⟩
  rw [if_neg h2, if_neg h2]
  have hx : x.1 ∉ h.map (·.1) := fun e => h1 (hmem.1 e)
  refine (c13_ok hq id x hx (by rw [hp.length_eq]; omega)).mono ?_
  rintro r σ' ⟨rfl, rfl⟩
  have nq : ∀ j, j = q ∨ j = im ∨ j = ii → j ≠ 7 :: 2 :: 2 :: 0 :: 8 :: 5 :: id := by
    rintro j hj rfl
    exact hN _ hj (und id [7, 2, 2, 0, 8, 5])
  have q1 := nq q (.inl rfl)
  have q2 := nq im (.inr (.inl rfl))
  obtain ⟨p1, p2⟩ := push_mk hq.minv hx
  have hqs : QS (pushS σ q ii im (2 :: 0 :: 8 :: 5 :: id) mk clk h x) q (7 :: 2 :: 2 :: 0 :: 8 :: 5 :: id) im (.own (7 :: 2 :: 2 :: 0 :: 8 :: 5 :: id) 40 0 (h.length + 1)) [] (mk ++ [(x.1, clk)]) (clk + 1) (h ++ [x]) := by
    have n1 := hq.ne1
    refine ⟨by simp [pushS, n1], by simp [pushS, p2], p1, .inr ⟨by simp, by simp [pushS, Ne.symm q1, Ne.symm q2]⟩, q1, n1, Ne.symm q2⟩
  have hup := upL_perm (h.length + 1) (h ++ [x]) h.length
  have hq2 := hqs.setL hup (by simp)
  have hper : (upL (h.length + 1) (h ++ [x]) h.length).Perm (withL l x) :=
    hup.trans ((List.perm_append_comm (l₁ := h) (l₂ := [x])).trans ((hp.cons x).trans (withL_perm l x).symm))
  refine ⟨rfl, _, ⟨_, _, _, _, _, _, _, hq2, ?_, hper, withL_sorted x hl, by rw [withL_len]; omega, rfl⟩, ⟨?_, ?_⟩⟩
  · have := heap_push hh x
    rw [hup.length_eq]
    simpa using this
  · rintro j (rfl | rfl | rfl)
    · exact .inl (.inl rfl)
    · exact .inl (.inr (.inl rfl))
    · exact .inr (und id [7, 2, 2, 0, 8, 5])
  · intro j hj hj2
    simp only [not_or] at hj
    have e : j ≠ 7 :: 2 :: 2 :: 0 :: 8 :: 5 :: id := by rintro rfl; exact hj2 (und id [7, 2, 2, 0, 8, 5])
    simp [setL, pushS, hj.1, hj.2.1, hj.2.2, e]

theorem head_min {h l : List It} {x : It} (hh : Heap h h.length) (hp : h.Perm (x :: l)) (hl : (x :: l).Pairwise leI) (h0 : 0 < h.length) : gI h 0 = x := by
  have h1 : x ∈ h := hp.mem_iff.2 (by simp)
  obtain ⟨i, hi, hix⟩ := List.mem_iff_getElem.1 h1
  have h2 := heap_low hh i hi
  rw [gI_eq hi, hix] at h2
  have h3 : gI h 0 ∈ x :: l := hp.mem_iff.1 (by rw [gI_eq h0]; exact List.getElem_mem _)
  rcases List.mem_cons.1 h3 with e | e
  · exact e
  · exact leI_anti h2 ((List.pairwise_cons.1 hl).1 _ e)

theorem last_split {h : List It} (h0 : 0 < h.length) : h.Perm (gI h (h.length - 1) :: h.dropLast) := by
  have e : h = h.dropLast ++ [gI h (h.length - 1)] := by
    have := List.dropLast_concat_getLast (l := h) (by rintro rfl; simp at h0)
    rw [List.getLast_eq_getElem] at this
    rw [gI_eq (by omega)]
    exact this.symm
  conv => lhs; rw [e]
  exact List.perm_append_comm

theorem a16_nil (h : QA σ q F []) (id : PM.Id) : PCS Try.prog id 16 [.ptr q 0 0] σ (fun r σ' => r = .tup [.agg (encI (0, 0)), .v (.int .i64 9)] ∧ σ' = σ) := by
  obtain ⟨ii, im, it, rest, mk, clk, h, hq, hh, hp, hl, hn, rfl⟩ := h
  obtain rfl : h = [] := hp.eq_nil
  exact c16_none hq id

theorem a17_nil (h : QA σ q F []) (id : PM.Id) : PCS Try.prog id 17 [.ptr q 0 0] σ (fun r σ' => r = .tup [.agg (encI (0, 0)), .v (.int .i64 9)] ∧ σ' = σ) := by
  obtain ⟨ii, im, it, rest, mk, clk, h, hq, hh, hp, hl, hn, rfl⟩ := h
  obtain rfl : h = [] := hp.eq_nil
  exact c17_none hq id

theorem a17 {x : It} (h : QA σ q F (x :: l)) (id : PM.Id) : PCS Try.prog id 17 [.ptr q 0 0] σ (fun r σ' => r = .tup [.agg (encI x), .v (.int .i64 0)] ∧ σ' = σ) := by
  obtain ⟨ii, im, it, rest, mk, clk, h, hq, hh, hp, hl, hn, rfl⟩ := h
  have h0 : 0 < h.length := by rw [hp.length_eq]; simp
  have e := head_min hh hp hl h0
  rw [gI_eq h0] at e
  rw [← e]
  exact c17 hq id h0

theorem a16 {x : It} (h : QA σ q F (x :: l)) (id : PM.Id) : PCS Try.prog id 16 [.ptr q 0 0] σ (fun r σ' => r = .tup [.agg (encI x), .v (.int .i64 0)] ∧ ∃ F', QA σ' q F' l ∧ Stp id σ F σ' F') := by
  obtain ⟨ii, im, it, rest, mk, clk, h, hq, hh, hp, hl, hn, rfl⟩ := h
  have h0 : 0 < h.length := by rw [hp.length_eq]; simp
  have e := head_min hh hp hl h0
  obtain ⟨k1, k2⟩ := heap_pop hh h0
  obtain ⟨mk', hmk, hc⟩ := c16 hq id h0 (by rw [hp.length_eq]; omega)
  refine hc.mono ?_
  rintro r σ' ⟨rfl, rfl⟩
  have hlast : (popL h)[(popL h).length - 1]'(by rw [popL_len]; omega) = x := by
    rw [← e, ← k2, gI_eq (by rw [popL_len]; omega)]
    congr 1
    rw [popL_len]
  rw [hlast]
  have hq2 := (hq.setL (popL_perm h) (by rintro rfl; simp at h0)).pop (by rw [popL_len]; exact h0) hmk
  have hper : (popL h).dropLast.Perm l := by
    have := last_split (h := popL h) (by rw [popL_len]; exact h0)
    rw [popL_len, k2, e] at this
    exact (this.symm.trans ((popL_perm h).trans hp)).cons_inv
  refine ⟨rfl, _, ⟨_, _, _, _, _, _, _, hq2, ?_, hper, (List.pairwise_cons.1 hl).2, by simp at hn; omega, rfl⟩, ⟨fun j hj => .inl hj, ?_⟩⟩
  · rw [List.length_dropLast, popL_len]; exact k1
  · intro j hj _
    simp only [not_or] at hj
    simp [setL, hj.1, hj.2.1, hj.2.2]

theorem key_at {h : List It} {k : Int} (hk : k ∈ h.map (·.1)) : ∃ i, ∃ hi : i < h.length, h[i].1 = k := by
  obtain ⟨x, hx, rfl⟩ := List.mem_map.1 hk
  obtain ⟨i, hi, rfl⟩ := List.mem_iff_getElem.1 hx
  exact ⟨i, hi, rfl⟩

theorem a14 (h : QA σ q F l) (id : PM.Id) (k : Int) :
    PCS Try.prog id 14 [.ptr q 0 0, .v (.int .i64 k)] σ (fun r σ' => r = .v (.int .i64 (fixR l k)) ∧ ∃ F', QA σ' q F' (rmI l k) ∧ Stp id σ F σ' F') := by
  have h0 := h
  obtain ⟨ii, im, it, rest, mk, clk, h, hq, hh, hp, hl, hn, rfl⟩ := h
  have hmem := (hp.map (·.1)).mem_iff (a := k)
  unfold fixR rmI
  by_cases h1 : k ∈ l.map (·.1)
  · rw [if_pos h1, if_pos h1]
    obtain ⟨i, hi, rfl⟩ := key_at (hmem.2 h1)
    obtain ⟨k1, k2⟩ := heap_rm hh hi
    obtain ⟨mk', hmk, hc⟩ := c14 hq id hi (by rw [hp.length_eq]; omega)
    refine hc.mono ?_
    rintro r σ' ⟨rfl, rfl⟩
    have hh0 : 0 < h.length := by omega
    have hq2 := (hq.setL (rmL_perm h i) (by rintro rfl; simp at hi)).pop (by rw [rmL_len]; exact hh0) hmk
    have hper : (rmL h i).dropLast.Perm (outK l h[i].1) := by
      have := last_split (h := rmL h i) (by rw [rmL_len]; exact hh0)
      rw [rmL_len, k2, gI_eq hi] at this
      exact (outK_one hq.minv.nodup ((rmL_perm h i).symm.trans this)).symm.trans (outK_perm hp _)
    refine ⟨rfl, _, ⟨_, _, _, _, _, _, _, hq2, ?_, hper, outK_sorted hl _, ?_, rfl⟩, ⟨fun j hj => .inl hj, ?_⟩⟩
    · rw [List.length_dropLast, rmL_len]; exact k1
    · have : (outK l h[i].1).length ≤ l.length := List.length_filter_le _ _
      omega
    · intro j hj _
      simp only [not_or] at hj
      simp [setL, hj.1, hj.2.1, hj.2.2]
  · rw [if_neg h1, if_neg h1]
    refine (c14_none hq id k (fun e => h1 (hmem.1 e))).mono ?_
    rintro r σ' ⟨rfl, rfl⟩
    exact ⟨rfl, _, h0, Stp.refl _ _ _⟩

theorem set_out {h : List It} {i : Nat} (hi : i < h.length) (hn : (h.map (·.1)).Nodup) (y : It) : (h.set i y).Perm (y :: outK h h[i].1) := by
  have e1 := erase_perm (l := h) (a := i) (List.getElem?_eq_getElem hi)
  have e2 := erase_perm (l := h.set i y) (a := i) (x := y) (by simp [hi])
  rw [List.eraseIdx_set_eq] at e2
  exact e2.symm.trans ((outK_one hn e1.symm).symm.cons y)

theorem a18 (h : QA σ q F l) (id : PM.Id) (k key : Int) :
    PCS Try.prog id 18 [.ptr q 0 0, .v (.int .i64 k), .v (.int .i64 key)] σ (fun r σ' => r = .v (.int .i64 (fixR l k)) ∧ ∃ F', QA σ' q F' (fixI l k key) ∧ Stp id σ F σ' F') := by
  have h0 := h
  obtain ⟨ii, im, it, rest, mk, clk, h, hq, hh, hp, hl, hn, rfl⟩ := h
  have hmem := (hp.map (·.1)).mem_iff (a := k)
  unfold fixR fixI
  by_cases h1 : k ∈ l.map (·.1)
  · rw [if_pos h1, if_pos h1]
    obtain ⟨i, hi, rfl⟩ := key_at (hmem.2 h1)
    refine (c18 hq id key hi (by rw [hp.length_eq]; omega)).mono ?_
    rintro r σ' ⟨rfl, rfl⟩
    have hh0 : 0 < h.length := by omega
    have hfp := fixL_perm (h.set i (h[i].1, key)) i
    have hq2 := (hq.key hi key).setL hfp (by intro e; have := congrArg List.length e; rw [List.length_set, List.length_nil] at this; omega)
    have hset : setL (upd σ ii (some (.cells ((h.set i (h[i].1, key)).map encI ++ rest) true))) ii im (fixL (h.set i (h[i].1, key)) i) rest mk clk = setL σ ii im (fixL (h.set i (h[i].1, key)) i) rest mk clk := by
      funext j; simp only [setL, upd_if]; split <;> (try split) <;> rfl
    rw [hset] at hq2
    have hso := (set_out hi hq.minv.nodup (h[i].1, key)).trans ((outK_perm hp h[i].1).cons _)
    have hlen : (outK l h[i].1).length + 1 = l.length := by
      have := hso.length_eq
      rw [List.length_set, hp.length_eq] at this
      simpa using this.symm
    refine ⟨rfl, _, ⟨_, _, _, _, _, _, _, hq2, ?_, hfp.trans (hso.trans (withL_perm _ _).symm), withL_sorted _ (outK_sorted hl _), ?_, rfl⟩, ⟨fun j hj => .inl hj, ?_⟩⟩
    · rw [hfp.length_eq, List.length_set]
      exact heap_fix hh hi _
    · rw [withL_len]; omega
    · intro j hj _
      simp only [not_or] at hj
      simp [setL, hj.2.1, hj.2.2]
  · rw [if_neg h1, if_neg h1]
    refine (c18_none hq id k key (fun e => h1 (hmem.1 e))).mono ?_
    rintro r σ' ⟨rfl, rfl⟩
    exact ⟨rfl, _, h0, Stp.refl _ _ _⟩

theorem a11 (h : QA σ q F l) (id : PM.Id) :
    PCS Try.prog id 11 [.ptr q 0 0] σ (fun r σ' => (l = [] ∧ r = .nilS ∧ σ' = σ) ∨ (r = .own (2 :: 2 :: 5 :: 2 :: id) 40 0 l.length ∧ σ' = upd σ (2 :: 2 :: 5 :: 2 :: id) (some (.cells (l.map encI) true)))) := by
  obtain ⟨ii, im, it, rest, mk, clk, h, hq, hh, hp, hl, hn, rfl⟩ := h
  have e : sortI h = l := sorted_eq (sortI_sorted h) hl ((sortI_perm h).trans hp)
  have hc := c11 hq id (by rw [hp.length_eq]; omega)
  rw [e, hp.length_eq] at hc
  refine hc.mono ?_
  rintro r σ' (⟨rfl, h2⟩ | h2)
  · exact .inl ⟨hp.symm.eq_nil, h2⟩
  · exact .inr h2

end
end QT
end

section
set_option linter.unusedSimpArgs false
set_option linter.unusedVariables false
set_option linter.constructorNameAsVariable false
/- Two items compared. -/
open Go hiding Id
open Go.Proofs Go.PM
namespace QT
theorem pureRun_pure {α : Type} {P : Program} (a : α) : pureRun P (pure a : Sem α) = some a := rfl
theorem pureRun_program {P : Program} : pureRun P program = some P := rfl
theorem eq40 (x y : It) : pureRun Try.prog (Op.equal 40 (.agg #[.int .i64 x.1, .int .i64 x.2]) (.agg #[.int .i64 y.1, .int .i64 y.2])) = some (decide (x = y)) := by
  have h40 : Try.prog.underlying 40 = some (.struct (Try.prog.fieldsOf 40)) := by kernel_rfl
  have h3 : Try.prog.underlying 3 = some (.int .i64) := by kernel_rfl
  have hp : Try.prog.stoodInHeld 40 = false := by kernel_rfl
  have ha : pureRun Try.prog (isAgg 3) = some false := by kernel_rfl
  have he : ∀ a b : Int, pureRun Try.prog (Op.equalIn 9999 3 (.int .i64 a) (.int .i64 b)) = some (a == b) := fun a b => by
    show pureRun Try.prog (Op.equalIn (9998 + 1) 3 _ _) = _
    unfold Op.equalIn
    simp only [pureRun_bind, Go.underlying, pureRun_program, Option.bind_some, h3, pureRun_pure]
    simp [pureRun_pure]
  have e : Op.equal 40 (.agg #[.int .i64 x.1, .int .i64 x.2]) (.agg #[.int .i64 y.1, .int .i64 y.2]) = Op.equalIn (9998 + 1 + 1) 40 (.agg #[.int .i64 x.1, .int .i64 x.2]) (.agg #[.int .i64 y.1, .int .i64 y.2]) := rfl
  rw [e]
  unfold Op.equalIn
  simp only [pureRun_bind, Go.underlying, pureRun_program, Option.bind_some, h40, pureRun_pure, hp]
  simp only [Program.fieldsOf, Try.underlying40]
  have hxy : (x = y) ↔ (x.1 = y.1 ∧ x.2 = y.2) := Prod.ext_iff
  by_cases h1 : x.1 = y.1 <;> by_cases h2 : x.2 = y.2 <;> simp [part, pureRun_bind, pureRun_pure, ha, he, h1, h2, hxy]

@[simp] theorem eqI (x y : It) : eqA Try.prog 40 (.agg (encI x)) (.agg (encI y)) = some (decide (x = y)) :=
  eqA_of ⟨#[.int .i64 x.1, .int .i64 x.2], #[.int .i64 y.1, .int .i64 y.2], by simp [toV, encI, toCells, toCell], by simp [toV, encI, toCells, toCell], by kernel_rfl, eq40 x y⟩
@[simp] theorem eqP (a b c d : Int) : eqA Try.prog 40 (.agg [.v (.int .i64 a), .v (.int .i64 b)]) (.agg [.v (.int .i64 c), .v (.int .i64 d)]) = some (decide (a = c ∧ b = d)) := by
  have := eqI (a, b) (c, d)
  simp only [encI] at this
  rw [this]
  congr 2
  simp
end QT
end

section
set_option linter.unusedSimpArgs false
set_option linter.unusedVariables false
set_option linter.constructorNameAsVariable false
/- The queue that is nil; the law's example. Printed in part by a program. -/
open Go hiding Id
open Go.Proofs Go.PM
set_option linter.unusedSimpArgs false
set_option linter.unusedVariables false
namespace QT
attribute [local irreducible] PW FL FR FS FB FM FG CallF CallS PC PCS bindK condK

theorem n12 {σ : Sto} (id : PM.Id) : PCS Try.prog id 12 [.v (.pointer none)] σ (fun r σ' => r = .v (.int .i64 0) ∧ σ' = σ) := by
  refine PCS.of Try.func12 rfl (by simp) ⟨_, _, rfl, rfl⟩ fun hfr => ?_
  show PW _ _ _ _ ⟨entry _, σ, 0⟩ _
  repeat' first
    | (refine PW.seq ?_)
    | (refine PW.rg (Mof []) mixed (by kernel_rfl) ?_; simp [pEqNil])
    | (refine PW.skip ?_; simp)
    | (refine PW.ret ?_; simp [pEqNil]; done)
    | (refine PW.ret ?_; simp [pEqNil])
    | (refine PW.exit ?_; simp)
    | (refine PW.condV ?_; simp [pEqNil])
    | (refine PW.block ?_)
    | (refine And.intro ?_ ?_)
    | (with_reducible intro _)

theorem n15 {σ : Sto} (id : PM.Id) (k : Int) : PCS Try.prog id 15 [.v (.pointer none), .v (.int .i64 k)] σ (fun r σ' => r = .v (.bool false) ∧ σ' = σ) := by
  refine PCS.of Try.func15 rfl (by simp) ⟨_, _, rfl, rfl⟩ fun hfr => ?_
  show PW _ _ _ _ ⟨entry _, σ, 0⟩ _
  repeat' first
    | (refine PW.seq ?_)
    | (refine PW.rg (Mof []) mixed (by kernel_rfl) ?_; simp [pEqNil])
    | (refine PW.skip ?_; simp)
    | (refine PW.ret ?_; simp [pEqNil]; done)
    | (refine PW.ret ?_; simp [pEqNil])
    | (refine PW.exit ?_; simp)
    | (refine PW.condV ?_; simp [pEqNil])
    | (refine PW.block ?_)
    | (refine And.intro ?_ ?_)
    | (with_reducible intro _)

theorem n11 {σ : Sto} (id : PM.Id) : PCS Try.prog id 11 [.v (.pointer none)] σ (fun r σ' => r = .nilS ∧ σ' = σ) := by
  refine PCS.of Try.func11 rfl (by simp) ⟨_, _, rfl, rfl⟩ fun hfr => ?_
  show PW _ _ _ _ ⟨entry _, σ, 0⟩ _
  repeat' first
    | (refine PW.seq ?_)
    | (refine PW.rg (Mof []) mixed (by kernel_rfl) ?_; simp [pEqNil])
    | (refine PW.skip ?_; simp)
    | (refine PW.ret ?_; simp [pEqNil]; done)
    | (refine PW.ret ?_; simp [pEqNil])
    | (refine PW.exit ?_; simp)
    | (refine PW.condV ?_; simp [pEqNil])
    | (refine PW.block ?_)
    | (refine And.intro ?_ ?_)
    | (with_reducible intro _)

theorem n13 {σ : Sto} (id : PM.Id) (k y : Int) : PCS Try.prog id 13 [.v (.pointer none), .v (.int .i64 k), .v (.int .i64 y)] σ (fun r σ' => r = .v (.int .i64 9) ∧ σ' = σ) := by
  refine PCS.of Try.func13 rfl (by simp) ⟨_, _, rfl, rfl⟩ fun hfr => ?_
  show PW _ _ _ _ ⟨entry _, σ, 0⟩ _
  repeat' first
    | (refine PW.seq ?_)
    | (refine PW.rg (Mof []) mixed (by kernel_rfl) ?_; simp [pEqNil])
    | (refine PW.skip ?_; simp)
    | (refine PW.ret ?_; simp [pEqNil]; done)
    | (refine PW.ret ?_; simp [pEqNil])
    | (refine PW.exit ?_; simp)
    | (refine PW.condV ?_; simp [pEqNil])
    | (refine PW.block ?_)
    | (refine And.intro ?_ ?_)
    | (with_reducible intro _)

theorem n18 {σ : Sto} (id : PM.Id) (k y : Int) : PCS Try.prog id 18 [.v (.pointer none), .v (.int .i64 k), .v (.int .i64 y)] σ (fun r σ' => r = .v (.int .i64 9) ∧ σ' = σ) := by
  refine PCS.of Try.func18 rfl (by simp) ⟨_, _, rfl, rfl⟩ fun hfr => ?_
  show PW _ _ _ _ ⟨entry _, σ, 0⟩ _
  repeat' first
    | (refine PW.seq ?_)
    | (refine PW.rg (Mof []) mixed (by kernel_rfl) ?_; simp [pEqNil])
    | (refine PW.skip ?_; simp)
    | (refine PW.ret ?_; simp [pEqNil]; done)
    | (refine PW.ret ?_; simp [pEqNil])
    | (refine PW.exit ?_; simp)
    | (refine PW.condV ?_; simp [pEqNil])
    | (refine PW.block ?_)
    | (refine CallS.of (n15 _ _) ?_; rintro _ _ ⟨rfl, rfl⟩; simp [pEqNil])
    | (refine And.intro ?_ ?_)
    | (with_reducible intro _)

theorem n14 {σ : Sto} (id : PM.Id) (k : Int) : PCS Try.prog id 14 [.v (.pointer none), .v (.int .i64 k)] σ (fun r σ' => r = .v (.int .i64 9) ∧ σ' = σ) := by
  refine PCS.of Try.func14 rfl (by simp) ⟨_, _, rfl, rfl⟩ fun hfr => ?_
  show PW _ _ _ _ ⟨entry _, σ, 0⟩ _
  repeat' first
    | (refine PW.seq ?_)
    | (refine PW.rg (Mof []) mixed (by kernel_rfl) ?_; simp [pEqNil])
    | (refine PW.skip ?_; simp)
    | (refine PW.ret ?_; simp [pEqNil]; done)
    | (refine PW.ret ?_; simp [pEqNil])
    | (refine PW.exit ?_; simp)
    | (refine PW.condV ?_; simp [pEqNil])
    | (refine PW.block ?_)
    | (refine CallS.of (n15 _ _) ?_; rintro _ _ ⟨rfl, rfl⟩; simp [pEqNil])
    | (refine And.intro ?_ ?_)
    | (with_reducible intro _)

theorem n16 {σ : Sto} (id : PM.Id) : PCS Try.prog id 16 [.v (.pointer none)] σ (fun r σ' => r = .tup [.agg (encI (0, 0)), .v (.int .i64 9)] ∧ σ' = σ) := by
  refine PCS.of Try.func16 rfl (by simp) ⟨_, _, rfl, rfl⟩ fun hfr => ?_
  show PW _ _ _ _ ⟨entry _, σ, 0⟩ _
  repeat' first
    | (refine PW.seq ?_)
    | (refine PW.rg (Mof []) mixed (by kernel_rfl) ?_; simp [pEqNil, encI])
    | (refine PW.skip ?_; simp)
    | (refine PW.ret ?_; simp [pEqNil, encI]; done)
    | (refine PW.ret ?_; simp [pEqNil, encI])
    | (refine PW.exit ?_; simp)
    | (refine PW.condV ?_; simp [pEqNil, encI])
    | (refine PW.block ?_)
    | (refine CallS.of (n12 _) ?_; rintro _ _ ⟨rfl, rfl⟩; simp [pEqNil, encI])
    | (refine And.intro ?_ ?_)
    | (with_reducible intro _)
  all_goals
    rename_i jj B hB
    by_cases e : jj = 0 :: 0 :: id
    · exfalso; subst e; rw [hfr (0 :: 0 :: id) (und id [0, 0])] at hB; cases hB
    · simpa [e] using hB

theorem n17 {σ : Sto} (id : PM.Id) : PCS Try.prog id 17 [.v (.pointer none)] σ (fun r σ' => r = .tup [.agg (encI (0, 0)), .v (.int .i64 9)] ∧ σ' = σ) := by
  refine PCS.of Try.func17 rfl (by simp) ⟨_, _, rfl, rfl⟩ fun hfr => ?_
  show PW _ _ _ _ ⟨entry _, σ, 0⟩ _
  repeat' first
    | (refine PW.seq ?_)
    | (refine PW.rg (Mof []) mixed (by kernel_rfl) ?_; simp [pEqNil, encI])
    | (refine PW.skip ?_; simp)
    | (refine PW.ret ?_; simp [pEqNil, encI]; done)
    | (refine PW.ret ?_; simp [pEqNil, encI])
    | (refine PW.exit ?_; simp)
    | (refine PW.condV ?_; simp [pEqNil, encI])
    | (refine PW.block ?_)
    | (refine CallS.of (n12 _) ?_; rintro _ _ ⟨rfl, rfl⟩; simp [pEqNil, encI])
    | (refine And.intro ?_ ?_)
    | (with_reducible intro _)
  all_goals
    rename_i jj B hB
    by_cases e : jj = 0 :: 0 :: id
    · exfalso; subst e; rw [hfr (0 :: 0 :: id) (und id [0, 0])] at hB; cases hB
    · simpa [e] using hB

end QT
end

section
set_option linter.unusedSimpArgs false
set_option linter.unusedVariables false
set_option linter.constructorNameAsVariable false
/- The law's example. Printed in part by a program. -/
open Go hiding Id
open Go.Proofs Go.PM
set_option linter.unusedSimpArgs false
set_option linter.unusedVariables false
namespace QT
attribute [local irreducible] PW FL FR FS FB FM FG CallF CallS PC PCS bindK condK

/-- The blocks lie where calls at such places and times laid them. -/
def Lies (ctx : PM.Id) (P : Nat → Nat → Prop) (F : PM.Id → Prop) : Prop := ∀ j, F j → ∃ i c, P i c ∧ (i :: c :: ctx) <:+ j
theorem Lies.no {ctx : PM.Id} {P : Nat → Nat → Prop} {F : PM.Id → Prop} (h : Lies ctx P F) {i c : Nat} (hn : ¬ P i c) : ∀ j, F j → ¬ (i :: c :: ctx) <:+ j := by
  intro j hj hs
  obtain ⟨i', c', hp, hs'⟩ := h j hj
  have e : (i :: c :: ctx) = (i' :: c' :: ctx) := suffix_eq hs hs' (by simp)
  simp at e
  rw [e.1, e.2] at hn
  exact hn hp
theorem Lies.mono {ctx : PM.Id} {P P' : Nat → Nat → Prop} {F : PM.Id → Prop} (h : Lies ctx P F) (hp : ∀ i c, P i c → P' i c) : Lies ctx P' F :=
  fun j hj => let ⟨i, c, h1, h2⟩ := h j hj; ⟨i, c, hp _ _ h1, h2⟩
theorem Lies.step {ctx : PM.Id} {P : Nat → Nat → Prop} {F F' : PM.Id → Prop} {σ σ' : Sto} {i c : Nat} (h : Lies ctx P F) (s : Stp (i :: c :: ctx) σ F σ' F') : Lies ctx (fun i' c' => P i' c' ∨ (i' = i ∧ c' = c)) F' := by
  intro j hj
  rcases s.f j hj with h1 | h1
  · obtain ⟨i', c', hp, hs⟩ := h j h1; exact ⟨i', c', .inl hp, hs⟩
  · exact ⟨i, c, .inr ⟨rfl, rfl⟩, h1⟩
theorem Lies.none (ctx : PM.Id) : Lies ctx (fun _ _ => False) (fun _ => False) := fun _ h => h.elim

theorem Lies.at {ctx : PM.Id} {P : Nat → Nat → Prop} {F : PM.Id → Prop} (h : Lies ctx P F) {i c : Nat} (hn : ¬ P i c) : ¬ F (i :: c :: ctx) := fun hj => h.no hn _ hj (List.suffix_refl _)
theorem QA.put {σ : Sto} {q : PM.Id} {F : PM.Id → Prop} {l : List It} (h : QA σ q F l) {j : PM.Id} {B : Option Blk} (hn : ¬ F j) : QA (upd σ j B) q F l := by
  refine h.congr fun i hi => ?_
  rw [upd_ne]
  rintro rfl
  exact hn hi
theorem Stp.loc {id : PM.Id} {σ : Sto} {F : PM.Id → Prop} {σ' : Sto} {F' : PM.Id → Prop} (s : Stp id σ F σ' F') {j : PM.Id} (hf : ¬ F j) (hn : ¬ id <:+ j) : σ' j = σ j := s.s j hf hn

theorem c7 : PC Try.prog 7 [] (.v (.bool true)) := by
  refine PC.of' Try.func7 rfl (by simp) ?_
  repeat' first
    | (refine PW.seq ?_)
    | (refine PW.rg (Mof []) mixed (by kernel_rfl) ?_; simp [pEqNil])
    | (refine PW.skip ?_; simp)
    | (refine PW.ret ?_; simp [pEqNil]; done)
    | (refine PW.ret ?_; simp [pEqNil])
    | (refine PW.exit ?_; simp)
    | (refine PW.condV ?_; simp [pEqNil])
    | (refine PW.block ?_)
    | (refine And.intro ?_ ?_)
    | (with_reducible intro _)
  refine CallS.of (a8 _) ?_; rintro _ σ1 ⟨rfl, F1, q1, s1⟩; simp
  have l1 := (Lies.none []).step s1
  repeat' first
    | (refine PW.seq ?_)
    | (refine PW.rg (Mof []) mixed (by kernel_rfl) ?_; simp [pEqNil])
    | (refine PW.skip ?_; simp)
    | (refine PW.ret ?_; simp [pEqNil]; done)
    | (refine PW.ret ?_; simp [pEqNil])
    | (refine PW.exit ?_; simp)
    | (refine PW.condV ?_; simp [pEqNil])
    | (refine PW.block ?_)
    | (refine And.intro ?_ ?_)
    | (with_reducible intro _)
  refine CallS.of (a13 q1 _ (l1.no (by simp)) (3, 5)) ?_; rintro _ σ2 ⟨rfl, F2, q2, s2⟩
  have l2 := l1.step s2
  rw [show pushR [] (3, 5) = 0 from by decide]
  rw [show pushL [] (3, 5) = [(3, 5)] from by decide] at q2
  simp [pEqNil]
  repeat' first
    | (refine PW.seq ?_)
    | (refine PW.rg (Mof []) mixed (by kernel_rfl) ?_; simp [pEqNil])
    | (refine PW.skip ?_; simp)
    | (refine PW.ret ?_; simp [pEqNil]; done)
    | (refine PW.ret ?_; simp [pEqNil])
    | (refine PW.exit ?_; simp)
    | (refine PW.condV ?_; simp [pEqNil])
    | (refine PW.block ?_)
    | (refine And.intro ?_ ?_)
    | (with_reducible intro _)
  refine CallS.of (a13 q2 _ (l2.no (by simp)) (1, 5)) ?_; rintro _ σ3 ⟨rfl, F3, q3, s3⟩
  have l3 := l2.step s3
  rw [show pushR [(3, 5)] (1, 5) = 0 from by decide]
  rw [show pushL [(3, 5)] (1, 5) = [(1, 5), (3, 5)] from by decide] at q3
  simp [pEqNil]
  repeat' first
    | (refine PW.seq ?_)
    | (refine PW.rg (Mof []) mixed (by kernel_rfl) ?_; simp [pEqNil])
    | (refine PW.skip ?_; simp)
    | (refine PW.ret ?_; simp [pEqNil]; done)
    | (refine PW.ret ?_; simp [pEqNil])
    | (refine PW.exit ?_; simp)
    | (refine PW.condV ?_; simp [pEqNil])
    | (refine PW.block ?_)
    | (refine And.intro ?_ ?_)
    | (with_reducible intro _)
  refine CallS.of (a13 q3 _ (l3.no (by simp)) (2, 9)) ?_; rintro _ σ4 ⟨rfl, F4, q4, s4⟩
  have l4 := l3.step s4
  rw [show pushR [(1, 5), (3, 5)] (2, 9) = 0 from by decide]
  rw [show pushL [(1, 5), (3, 5)] (2, 9) = [(1, 5), (3, 5), (2, 9)] from by decide] at q4
  simp [pEqNil]
  repeat' first
    | (refine PW.seq ?_)
    | (refine PW.rg (Mof []) mixed (by kernel_rfl) ?_; simp [pEqNil])
    | (refine PW.skip ?_; simp)
    | (refine PW.ret ?_; simp [pEqNil]; done)
    | (refine PW.ret ?_; simp [pEqNil])
    | (refine PW.exit ?_; simp)
    | (refine PW.condV ?_; simp [pEqNil])
    | (refine PW.block ?_)
    | (refine And.intro ?_ ?_)
    | (with_reducible intro _)
  refine CallS.of (a13 q4 _ (l4.no (by simp)) (2, 1)) ?_; rintro _ σ5 ⟨rfl, F5, q5, s5⟩
  have l5 := l4.step s5
  rw [show pushR [(1, 5), (3, 5), (2, 9)] (2, 1) = 6 from by decide]
  rw [show pushL [(1, 5), (3, 5), (2, 9)] (2, 1) = [(1, 5), (3, 5), (2, 9)] from by decide] at q5
  simp [pEqNil]
  repeat' first
    | (refine PW.seq ?_)
    | (refine PW.rg (Mof []) mixed (by kernel_rfl) ?_; simp [pEqNil])
    | (refine PW.skip ?_; simp)
    | (refine PW.ret ?_; simp [pEqNil]; done)
    | (refine PW.ret ?_; simp [pEqNil])
    | (refine PW.exit ?_; simp)
    | (refine PW.condV ?_; simp [pEqNil])
    | (refine PW.block ?_)
    | (refine And.intro ?_ ?_)
    | (with_reducible intro _)
  refine CallS.of (a17 q5 _) ?_; rintro _ _ ⟨rfl, rfl⟩; simp [pEqNil, encI]
  repeat' first
    | (refine PW.seq ?_)
    | (refine PW.rg (Mof []) mixed (by kernel_rfl) ?_; simp [pEqNil, encI])
    | (refine PW.skip ?_; simp)
    | (refine PW.ret ?_; simp [pEqNil, encI]; done)
    | (refine PW.ret ?_; simp [pEqNil, encI])
    | (refine PW.exit ?_; simp)
    | (refine PW.condV ?_; simp [pEqNil, encI])
    | (refine PW.block ?_)
    | (refine And.intro ?_ ?_)
    | (with_reducible intro _)
  refine CallS.of (a18 ((q5.put (l5.at (by simp))).put (l5.at (by simp))) _ 2 0) ?_; rintro _ σ6 ⟨rfl, F6, q6, s6⟩
  have l6 := l5.step s6
  have m6 := s6.loc (j := [5, 3]) (l5.at (by simp)) (by decide)
  rw [show fixR [(1, 5), (3, 5), (2, 9)] 2 = 0 from by decide]
  rw [show fixI [(1, 5), (3, 5), (2, 9)] 2 0 = [(2, 0), (1, 5), (3, 5)] from by decide] at q6
  simp at m6
  simp [pEqNil, encI]
  repeat' first
    | (refine PW.seq ?_)
    | (refine PW.rg (Mof []) mixed (by kernel_rfl) ?_; simp [pEqNil, encI])
    | (refine PW.skip ?_; simp)
    | (refine PW.ret ?_; simp [pEqNil, encI]; done)
    | (refine PW.ret ?_; simp [pEqNil, encI])
    | (refine PW.exit ?_; simp)
    | (refine PW.condV ?_; simp [pEqNil, encI])
    | (refine PW.block ?_)
    | (refine And.intro ?_ ?_)
    | (with_reducible intro _)
  refine CallS.of (a16 q6 _) ?_; rintro _ σ7 ⟨rfl, F7, q7, s7⟩
  have l7 := l6.step s7
  have m7 := (s7.loc (j := [5, 3]) (l6.at (by simp)) (by decide)).trans m6
  simp [pEqNil, encI]
  repeat' first
    | (refine PW.seq ?_)
    | (refine PW.rg (Mof []) mixed (by kernel_rfl) ?_; simp [pEqNil, encI, m7])
    | (refine PW.skip ?_; simp)
    | (refine PW.ret ?_; simp [pEqNil, encI, m7]; done)
    | (refine PW.ret ?_; simp [pEqNil, encI, m7])
    | (refine PW.exit ?_; simp)
    | (refine PW.condV ?_; simp [pEqNil, encI, m7])
    | (refine PW.block ?_)
    | (refine And.intro ?_ ?_)
    | (with_reducible intro _)
  refine CallS.of (a12 (q7.put (l7.at (by simp)) |>.put (l7.at (by simp))) _) ?_; rintro _ _ ⟨rfl, rfl⟩; simp [pEqNil, encI, m7]
  repeat' first
    | (refine PW.seq ?_)
    | (refine PW.rg (Mof []) mixed (by kernel_rfl) ?_; simp [pEqNil, encI, m7])
    | (refine PW.skip ?_; simp)
    | (refine PW.ret ?_; simp [pEqNil, encI, m7]; done)
    | (refine PW.ret ?_; simp [pEqNil, encI, m7])
    | (refine PW.exit ?_; simp)
    | (refine PW.condV ?_; simp [pEqNil, encI, m7])
    | (refine PW.block ?_)
    | (refine And.intro ?_ ?_)
    | (with_reducible intro _)
  refine CallS.of (a15 (q7.put (l7.at (by simp)) |>.put (l7.at (by simp))) _ 3) ?_; rintro _ _ ⟨rfl, rfl⟩
  rw [show hasL [(1, 5), (3, 5)] 3 = true from by decide]
  simp [pEqNil, encI, m7]
  repeat' first
    | (refine PW.seq ?_)
    | (refine PW.rg (Mof []) mixed (by kernel_rfl) ?_; simp [pEqNil, encI, m7])
    | (refine PW.skip ?_; simp)
    | (refine PW.ret ?_; simp [pEqNil, encI, m7]; done)
    | (refine PW.ret ?_; simp [pEqNil, encI, m7])
    | (refine PW.exit ?_; simp)
    | (refine PW.condV ?_; simp [pEqNil, encI, m7])
    | (refine PW.block ?_)
    | (refine And.intro ?_ ?_)
    | (with_reducible intro _)
  refine CallS.of (a15 (q7.put (l7.at (by simp)) |>.put (l7.at (by simp))) _ 2) ?_; rintro _ _ ⟨rfl, rfl⟩
  rw [show hasL [(1, 5), (3, 5)] 2 = false from by decide]
  simp [pEqNil, encI, m7]
  repeat' first
    | (refine PW.seq ?_)
    | (refine PW.rg (Mof []) mixed (by kernel_rfl) ?_; simp [pEqNil, encI, m7])
    | (refine PW.skip ?_; simp)
    | (refine PW.ret ?_; simp [pEqNil, encI, m7]; done)
    | (refine PW.ret ?_; simp [pEqNil, encI, m7])
    | (refine PW.exit ?_; simp)
    | (refine PW.condV ?_; simp [pEqNil, encI, m7])
    | (refine PW.block ?_)
    | (refine And.intro ?_ ?_)
    | (with_reducible intro _)

end QT
end

section
set_option linter.unusedSimpArgs false
set_option linter.unusedVariables false
set_option linter.constructorNameAsVariable false
/- The law's script: one call on both. Printed in part by a program. -/
open Go hiding Id
open Go.Proofs Go.PM
set_option linter.unusedSimpArgs false
set_option linter.unusedVariables false
namespace QT
attribute [local irreducible] PW FL FR FS FB FM FG CallF CallS CallQ PC PCS bindK condK

theorem r19 (l : List It) (x : It) (hl : l.length ≤ 100000) : PC Try.prog 19 [.sl (l.map encI), .v (.int .i64 x.1), .v (.int .i64 x.2)] (.tup [.sl ((pushL l x).map encI), .v (.int .i64 (pushR l x))]) := by
  unfold pushL pushR
  by_cases h1 : x.1 ∈ l.map (·.1)
  · obtain ⟨j, _, h2, _⟩ := placeF_in 0 h1
    rw [if_pos h1, if_pos h1]
    exact c19_has l x hl (by rw [h2]; omega)
  · have h2 := placeF_out 0 h1
    rw [if_neg h1, if_neg h1]
    by_cases h3 : 4096 ≤ l.length
    · rw [if_pos h3, if_pos h3]; exact c19_full l x hl (by rw [h2]; omega) h3
    · rw [if_neg h3, if_neg h3]; exact c19_ok l x hl (by rw [h2]; omega) (by omega)
theorem r20 (l : List It) (hl : l.length ≤ 100000) : PC Try.prog 20 [.sl (l.map encI)] (.tup [.agg (encI (headV l)), .sl (l.tail.map encI), .v (.int .i64 (headR l))]) := by
  cases l with
  | nil => exact c20_none
  | cons x l => exact c20 x l (by simp at hl; omega)
theorem r21 (l : List It) (x : It) (hl : l.length ≤ 100000) (hn : (l.map (·.1)).Nodup) : PC Try.prog 21 [.sl (l.map encI), .v (.int .i64 x.1), .v (.int .i64 x.2)] (.tup [.sl ((fixI l x.1 x.2).map encI), .v (.int .i64 (fixR l x.1))]) := by
  unfold fixI fixR
  by_cases h1 : x.1 ∈ l.map (·.1)
  · obtain ⟨j, hj, h2, _, h3⟩ := placeF_in 0 h1
    rw [if_pos h1, if_pos h1, ← h3 hn]
    exact c21 l x j hl hj (by rw [h2]; simp)
  · have h2 := placeF_out 0 h1
    rw [if_neg h1, if_neg h1]
    exact c21_none l x hl (by rw [h2]; omega)
theorem r22 (l : List It) (k : Int) (hl : l.length ≤ 100000) (hn : (l.map (·.1)).Nodup) : PC Try.prog 22 [.sl (l.map encI), .v (.int .i64 k)] (.tup [.sl ((rmI l k).map encI), .v (.int .i64 (fixR l k))]) := by
  unfold rmI fixR
  by_cases h1 : k ∈ l.map (·.1)
  · obtain ⟨j, hj, h2, _, h3⟩ := placeF_in 0 h1
    rw [if_pos h1, if_pos h1, ← h3 hn]
    exact c22 l k j hl hj (by rw [h2]; simp)
  · have h2 := placeF_out 0 h1
    rw [if_neg h1, if_neg h1]
    exact c22_none l k hl (by rw [h2]; omega)
theorem r23 (l : List It) (k : Int) (hl : l.length ≤ 100000) : PC Try.prog 23 [.sl (l.map encI), .v (.int .i64 k)] (.v (.bool (hasL l k))) := by
  have : hasL l k = decide (0 ≤ placeF l k 0) := by
    unfold hasL
    by_cases h1 : k ∈ l.map (·.1)
    · obtain ⟨j, _, h2, _⟩ := placeF_in 0 h1
      rw [decide_eq_true h1, h2, decide_eq_true (by omega)]
    · have h2 := placeF_out 0 h1
      rw [decide_eq_false h1, h2]; rfl
  rw [this]
  exact c23 l k hl

section
variable {σ : Sto} {q : PM.Id} {F : PM.Id → Prop} {l : List It}
theorem b16 (h : QA σ q F l) (id : PM.Id) : PCS Try.prog id 16 [.ptr q 0 0] σ (fun r σ' => r = .tup [.agg (encI (headV l)), .v (.int .i64 (headR l))] ∧ ∃ F', QA σ' q F' l.tail ∧ Stp id σ F σ' F') := by
  cases l with
  | nil =>
    refine (a16_nil h id).mono ?_
    rintro r σ' ⟨rfl, rfl⟩
    exact ⟨rfl, F, h, Stp.refl _ _ _⟩
  | cons x l => exact a16 h id
theorem b17 (h : QA σ q F l) (id : PM.Id) : PCS Try.prog id 17 [.ptr q 0 0] σ (fun r σ' => r = .tup [.agg (encI (headV l)), .v (.int .i64 (headR l))] ∧ σ' = σ) := by
  cases l with
  | nil => exact a17_nil h id
  | cons x l => exact a17 h id
end

theorem c10 (a b : List It) (ha : a.length ≤ 100000) (hb : b.length ≤ 100000) : PC Try.prog 10 [.sl (a.map encI), .sl (b.map encI)] (.v (.bool (decide (a = b)))) := by
  refine PC.of' Try.func10 rfl (by simp) ?_
  by_cases hlen : a.length = b.length
  · skip
    repeat' first
      | (refine PW.seq ?_)
      | (refine PW.rg (Mof []) mixed (by kernel_rfl) ?_; simp [hlen])
      | (refine PW.skip ?_; simp)
      | (refine PW.ret ?_; simp [hlen]; done)
      | (refine PW.ret ?_; simp [hlen])
      | (refine PW.exit ?_; simp)
      | (refine PW.condV ?_; simp [hlen])
      | (refine PW.block ?_)
      | (refine And.intro ?_ ?_)
      | (with_reducible intro _)

    refine PW.loop (fun n s => ∃ j : Nat, n = a.length - j ∧ j ≤ a.length ∧ s.t 13 = .v (.int .i64 j) ∧ s.t 12 = .v (.int .i64 a.length) ∧ s.t 0 = .sl (a.map encI) ∧ s.t 1 = .sl (b.map encI) ∧ a.take j = b.take j) a.length ?_ ?_
    · exact ⟨0, rfl, by omega, by simp, by simp [hlen], by simp, by simp, by simp⟩
    rintro n ⟨t, s1, c⟩ ⟨j, rfl, hj, h13, h12, h0, h1, he⟩
    simp only at h13 h12 h0 h1
    by_cases hja : j < a.length
    · have hjb : j < b.length := by omega
      have ga : (a.map encI)[j]? = some (encI a[j]) := by simp [hja]
      have gb : (b.map encI)[j]? = some (encI b[j]) := by simp [hjb]
      have hji : (j : Int) < (a.length : Int) := by omega
      have hw : IntKind.i64.wrap ((j : Int) + 1) = ((j + 1 : Nat) : Int) := by rw [wrap64 (by omega) (by omega)]; omega
      by_cases e1 : a[j].1 = b[j].1
      · by_cases e2 : a[j].2 = b[j].2
        · skip
          repeat' first
            | (refine PW.seq ?_)
            | (refine PW.rg (Mof []) mixed (by kernel_rfl) ?_; simp [h13, h12, h0, h1, ga, gb, hja, hjb, hji, hw, e1, e2])
            | (refine PW.skip ?_; simp)
            | (refine PW.ret ?_; simp [h13, h12, h0, h1, ga, gb, hja, hjb, hji, hw, e1, e2]; done)
            | (refine PW.ret ?_; simp [h13, h12, h0, h1, ga, gb, hja, hjb, hji, hw, e1, e2])
            | (refine PW.exit ?_; simp)
            | (refine PW.condV ?_; simp [h13, h12, h0, h1, ga, gb, hja, hjb, hji, hw, e1, e2])
            | (refine PW.block ?_)
            | (refine And.intro ?_ ?_)
            | (with_reducible intro _)

          all_goals first | (exfalso; simp_all; done) | skip
          all_goals refine ⟨a.length - (j + 1), by omega, j + 1, rfl, by omega, by omega, ?_⟩
          all_goals
            rw [List.take_add_one, List.take_add_one, he, List.getElem?_eq_getElem hja, List.getElem?_eq_getElem hjb]
            rw [show a[j] = b[j] from Prod.ext e1 e2]
        · have hne : ¬ a = b := by rintro rfl; exact e2 rfl
          repeat' first
            | (refine PW.seq ?_)
            | (refine PW.rg (Mof []) mixed (by kernel_rfl) ?_; simp [h13, h12, h0, h1, ga, gb, hja, hjb, hji, hw, e1, e2, hne])
            | (refine PW.skip ?_; simp)
            | (refine PW.ret ?_; simp [h13, h12, h0, h1, ga, gb, hja, hjb, hji, hw, e1, e2, hne]; done)
            | (refine PW.ret ?_; simp [h13, h12, h0, h1, ga, gb, hja, hjb, hji, hw, e1, e2, hne])
            | (refine PW.exit ?_; simp)
            | (refine PW.condV ?_; simp [h13, h12, h0, h1, ga, gb, hja, hjb, hji, hw, e1, e2, hne])
            | (refine PW.block ?_)
            | (refine And.intro ?_ ?_)
            | (with_reducible intro _)

          all_goals first | (exfalso; simp_all; done) | skip
      · have hne : ¬ a = b := by rintro rfl; exact e1 rfl
        repeat' first
          | (refine PW.seq ?_)
          | (refine PW.rg (Mof []) mixed (by kernel_rfl) ?_; simp [h13, h12, h0, h1, ga, gb, hja, hjb, hji, hw, e1, hne])
          | (refine PW.skip ?_; simp)
          | (refine PW.ret ?_; simp [h13, h12, h0, h1, ga, gb, hja, hjb, hji, hw, e1, hne]; done)
          | (refine PW.ret ?_; simp [h13, h12, h0, h1, ga, gb, hja, hjb, hji, hw, e1, hne])
          | (refine PW.exit ?_; simp)
          | (refine PW.condV ?_; simp [h13, h12, h0, h1, ga, gb, hja, hjb, hji, hw, e1, hne])
          | (refine PW.block ?_)
          | (refine And.intro ?_ ?_)
          | (with_reducible intro _)

        all_goals first | (exfalso; simp_all; done) | skip
    · have hja' : ¬ (j : Int) < (a.length : Int) := by omega
      have hab : a = b := by
        rw [List.take_of_length_le (by omega), List.take_of_length_le (by omega)] at he
        exact he
      subst hab
      repeat' first
        | (refine PW.seq ?_)
        | (refine PW.rg (Mof []) mixed (by kernel_rfl) ?_; simp [h13, h12, h0, h1, hja'])
        | (refine PW.skip ?_; simp)
        | (refine PW.ret ?_; simp [h13, h12, h0, h1, hja']; done)
        | (refine PW.ret ?_; simp [h13, h12, h0, h1, hja'])
        | (refine PW.exit ?_; simp)
        | (refine PW.condV ?_; simp [h13, h12, h0, h1, hja'])
        | (refine PW.block ?_)
        | (refine And.intro ?_ ?_)
        | (with_reducible intro _)

      all_goals first | (exfalso; simp_all; done) | skip
  · have hne : a ≠ b := by rintro rfl; exact hlen rfl
    have hlen' : ¬ (a.length : Int) = (b.length : Int) := by omega
    repeat' first
      | (refine PW.seq ?_)
      | (refine PW.rg (Mof []) mixed (by kernel_rfl) ?_; simp [hlen, hlen', hne])
      | (refine PW.skip ?_; simp)
      | (refine PW.ret ?_; simp [hlen, hlen', hne]; done)
      | (refine PW.ret ?_; simp [hlen, hlen', hne])
      | (refine PW.exit ?_; simp)
      | (refine PW.condV ?_; simp [hlen, hlen', hne])
      | (refine PW.block ?_)
      | (refine And.intro ?_ ?_)
      | (with_reducible intro _)

end QT
end

section
set_option linter.unusedSimpArgs false
set_option linter.unusedVariables false
set_option linter.constructorNameAsVariable false
/- The law's script: one call on both. Printed in part by a program. -/
open Go hiding Id
open Go.PM
theorem QT.ex {P : Program} {id : PM.Id} {f : FuncId} {args : List PV} {σ : Sto} {Q : PV → Sto → Prop} (h : PCS P id f args σ Q) : ∃ r σ', Q r σ' := h.1
theorem QT.nsuf {id : PM.Id} {a b c d : Nat} (h : ¬ (a = c ∧ b = d)) : ¬ (a :: b :: id) <:+ (c :: d :: id) := by
  intro hs
  have e := suffix_eq hs (List.suffix_refl _) (by simp)
  simp at e
  exact h e
open Go hiding Id
open Go.Proofs Go.PM
set_option linter.unusedSimpArgs false
set_option linter.unusedVariables false
namespace QT
attribute [local irreducible] PW FL FR FS FB FM FG CallF CallS CallQ PC PCS bindK condK

def stepL (l : List It) (k : Int) (x : It) : List It := if k = 0 then pushL l x else if k = 1 then l.tail else if k = 2 then l else if k = 3 then fixI l x.1 x.2 else if k = 4 then rmI l x.1 else l

theorem not_und {F : PM.Id → Prop} {id : PM.Id} (hN : ∀ j, F j → ¬ id <:+ j) (l : PM.Id) : ¬ F (l ++ id) := fun h => hN _ h (und id l)
theorem not_und2 {F : PM.Id → Prop} {id : PM.Id} (hN : ∀ j, F j → ¬ id <:+ j) (i c : Nat) : ∀ j, F j → ¬ (i :: c :: id) <:+ j := fun j hj hs => hN j hj (suffix_tail2 hs)
theorem Stp.up {id : PM.Id} {i c : Nat} {σ σ' : Sto} {F F' : PM.Id → Prop} (h : Stp (i :: c :: id) σ F σ' F') : Stp id σ F σ' F' :=
  ⟨fun j hj => (h.f j hj).imp (fun e => e) suffix_tail2, fun j h1 h2 => h.s j h1 fun hs => h2 (suffix_tail2 hs)⟩

theorem Stp.base {id : PM.Id} {σ σ0 σ' : Sto} {F F' : PM.Id → Prop} (h : Stp id σ0 F σ' F') (h0 : ∀ j, ¬ id <:+ j → σ0 j = σ j) : Stp id σ F σ' F' :=
  ⟨h.f, fun j h1 h2 => (h.s j h1 h2).trans (h0 j h2)⟩
theorem upd_base {id : PM.Id} {σ σ0 : Sto} (h : ∀ j, ¬ id <:+ j → σ0 j = σ j) {k c : Nat} {B : Option Blk} : ∀ j, ¬ id <:+ j → upd σ0 (k :: c :: id) B j = σ j := by
  intro j hj
  rw [upd_ne _ _ (by rintro rfl; exact hj (und id [k, c]))]
  exact h j hj

theorem frz_it {n : Nat} {σ : Sto} {j : PM.Id} {e : Nat} {l : List It} {w : Bool} (h : σ j = some (.cells (l.map encI) w)) : frz (n + 2) σ (.own j e 0 l.length) = some (.sl (l.map encI)) := by
  have h1 : ((l.map encI).drop 0).take l.length = l.map encI := by rw [List.drop_zero, List.take_of_length_le (by simp)]
  have h2 := frz_cells (n := n) (σ := σ) l
  unfold frz
  simp only [h]
  rw [if_pos (by simp), h1, h2]
  rfl
theorem frzIds_it {n : Nat} {σ : Sto} {j : PM.Id} {e : Nat} {l : List It} {w : Bool} (h : σ j = some (.cells (l.map encI) w)) : frzIds (n + 2) σ (.own j e 0 l.length) = [j] := by
  have h1 : ((l.map encI).drop 0).take l.length = l.map encI := by rw [List.drop_zero, List.take_of_length_le (by simp)]
  unfold frzIds
  simp only [h, h1]
  congr 1
  rw [List.flatMap_eq_nil_iff]
  intro cs hcs
  obtain ⟨x, _, rfl⟩ := List.mem_map.1 hcs
  simp [encI, frzIds]

theorem CallF.same {σ : Sto} {j : PM.Id} {l m : List It} {d : Option Tmp} {t : Nat → PV} {c : Nat} {K : PSt → Prop} (hj : σ j = some (.cells (l.map encI) true)) (hl : l.length ≤ 100000) (hm : m.length ≤ 100000)
    (hK : ∀ σ2, (∀ i, i ≠ j → σ2 i = σ i) → K ⟨putT t d (.v (.bool (decide (l = m)))), σ2, c⟩) : CallF Try.prog 10 [.own j 40 0 l.length, .sl (m.map encI)] d ⟨t, σ, c⟩ K := by
  refine CallF.mk (args' := [.sl (l.map encI), .sl (m.map encI)]) ?_ (c10 l m hl hm) (hK _ ?_)
  · have := frz_it (n := 10) (e := 40) hj
    simp only [mapO, depthF]
    rw [this]
    rfl
  · intro i hi
    have := frzIds_it (n := 10) (e := 40) hj
    simp only [List.flatMap_cons, List.flatMap_nil, depthF, this]
    simp [frzIds, PM.mark, hi]
theorem CallF.sameNil {σ : Sto} {d : Option Tmp} {t : Nat → PV} {c : Nat} {K : PSt → Prop} (hK : K ⟨putT t d (.v (.bool true)), σ, c⟩) : CallF Try.prog 10 [.nilS, .sl []] d ⟨t, σ, c⟩ K := by
  refine CallF.mk (args' := [.sl [], .sl []]) rfl (by have := c10 [] [] (by simp) (by simp); simpa using this) ?_
  have : ([PV.nilS, PV.sl []].flatMap (frzIds depthF σ)) = [] := rfl
  rw [this, mark_nil]
  exact hK

section
variable {σ : Sto} {q : PM.Id} {F : PM.Id → Prop} {l : List It}
theorem exL (h : QA σ q F l) (id : PM.Id) (hN : ∀ j, F j → ¬ id <:+ j) (k : Int) (x : It) : ∃ σ' F', QA σ' q F' (stepL l k x) ∧ Stp id σ F σ' F' := by
  unfold stepL
  split
  · obtain ⟨_, σ1, _, F1, q1, s1⟩ := ex (a13 h id hN x); exact ⟨σ1, F1, q1, s1⟩
  split
  · obtain ⟨_, σ1, _, F1, q1, s1⟩ := ex (b16 h id); exact ⟨σ1, F1, q1, s1⟩
  split
  · exact ⟨σ, F, h, Stp.refl _ _ _⟩
  split
  · obtain ⟨_, σ1, _, F1, q1, s1⟩ := ex (a18 h id x.1 x.2); exact ⟨σ1, F1, q1, s1⟩
  split
  · obtain ⟨_, σ1, _, F1, q1, s1⟩ := ex (a14 h id x.1); exact ⟨σ1, F1, q1, s1⟩
  · exact ⟨σ, F, h, Stp.refl _ _ _⟩

theorem c9 (h : QA σ q F l) (id : PM.Id) (hN : ∀ j, F j → ¬ id <:+ j) (k : Int) (x : It) :
    PCS Try.prog id 9 [.ptr q 0 0, .sl (l.map encI), .agg [.v (.int .i64 k), .v (.int .i64 x.1), .v (.int .i64 x.2)]] σ
      (fun r σ' => r = .tup [.sl ((stepL l k x).map encI), .v (.bool true)] ∧ ∃ F', QA σ' q F' (stepL l k x) ∧ Stp id σ F σ' F') := by
  obtain ⟨σx, Fx, qx, sx⟩ := exL h id hN k x
  refine PCS.of Try.func9 rfl (by simp) ⟨_, σx, rfl, Fx, qx, sx⟩ fun hfr => ?_
  clear qx sx
  show PW _ _ _ _ ⟨entry _, σ, 0⟩ _
  have hl := h.len
  have hn := h.nodup
  have N := fun i c => not_und2 hN i c
  have A := fun a b => not_und hN [a, b]
  simp only [List.cons_append, List.nil_append] at A
  have b0 : ∀ j, ¬ id <:+ j → σ j = σ j := fun _ _ => rfl
  by_cases hk0 : k = 0
  · have hst : stepL l k x = pushL l x := by simp [stepL, hk0]
    rw [hst]
    repeat' first
      | (refine PW.seq ?_)
      | (refine PW.rg (Mofq [10, 19, 20, 21, 22, 23] [12, 15]) mixed (by kernel_rfl) ?_; simp [pEqNil, hk0])
      | (refine PW.skip ?_; simp)
      | (refine PW.ret ?_; simp [pEqNil, hk0]; done)
      | (refine PW.ret ?_; simp [pEqNil, hk0])
      | (refine PW.exit ?_; simp)
      | (refine PW.condV ?_; simp [pEqNil, hk0])
      | (refine PW.block ?_)
      | (refine And.intro ?_ ?_)
      | (with_reducible intro _)
    refine CallF.flat (r19 l x (by omega)) (by simp) ?_; simp
    repeat' first
      | (refine PW.seq ?_)
      | (refine PW.rg (Mofq [10, 19, 20, 21, 22, 23] [12, 15]) mixed (by kernel_rfl) ?_; simp [pEqNil, hk0])
      | (refine PW.skip ?_; simp)
      | (refine PW.ret ?_; simp [pEqNil, hk0]; done)
      | (refine PW.ret ?_; simp [pEqNil, hk0])
      | (refine PW.exit ?_; simp)
      | (refine PW.condV ?_; simp [pEqNil, hk0])
      | (refine PW.block ?_)
      | (refine And.intro ?_ ?_)
      | (with_reducible intro _)
    refine CallS.of (a13 (h.put (A 0 0)) _ (N _ _) x) ?_; rintro _ σ1 ⟨rfl, F1, q1, s1⟩; simp
    repeat' first
      | (refine PW.seq ?_)
      | (refine PW.rg (Mofq [10, 19, 20, 21, 22, 23] [12, 15]) mixed (by kernel_rfl) ?_; simp [pEqNil, hk0])
      | (refine PW.skip ?_; simp)
      | (refine PW.ret ?_; simp [pEqNil, hk0]; done)
      | (refine PW.ret ?_; simp [pEqNil, hk0])
      | (refine PW.exit ?_; simp)
      | (refine PW.condV ?_; simp [pEqNil, hk0])
      | (refine PW.block ?_)
      | (refine And.intro ?_ ?_)
      | (with_reducible intro _)
    exact ⟨σ1, ⟨F1, q1, s1.up.base (upd_base b0)⟩, fun _ _ h => h⟩
  by_cases hk1 : k = 1
  · have hst : stepL l k x = l.tail := by simp [stepL, hk1]
    rw [hst]
    repeat' first
      | (refine PW.seq ?_)
      | (refine PW.rg (Mofq [10, 19, 20, 21, 22, 23] [12, 15]) mixed (by kernel_rfl) ?_; simp [pEqNil, hk0, hk1])
      | (refine PW.skip ?_; simp)
      | (refine PW.ret ?_; simp [pEqNil, hk0, hk1]; done)
      | (refine PW.ret ?_; simp [pEqNil, hk0, hk1])
      | (refine PW.exit ?_; simp)
      | (refine PW.condV ?_; simp [pEqNil, hk0, hk1])
      | (refine PW.block ?_)
      | (refine And.intro ?_ ?_)
      | (with_reducible intro _)
    refine CallF.flat (r20 l (by omega)) (by simp) ?_; simp [encI]
    repeat' first
      | (refine PW.seq ?_)
      | (refine PW.rg (Mofq [10, 19, 20, 21, 22, 23] [12, 15]) mixed (by kernel_rfl) ?_; simp [pEqNil, hk0, hk1, encI])
      | (refine PW.skip ?_; simp)
      | (refine PW.ret ?_; simp [pEqNil, hk0, hk1, encI]; done)
      | (refine PW.ret ?_; simp [pEqNil, hk0, hk1, encI])
      | (refine PW.exit ?_; simp)
      | (refine PW.condV ?_; simp [pEqNil, hk0, hk1, encI])
      | (refine PW.block ?_)
      | (refine And.intro ?_ ?_)
      | (with_reducible intro _)
    refine CallS.of (b16 ((((h.put (A _ _)).put (A _ _)).put (A _ _))) _) ?_; rintro _ σ1 ⟨rfl, F1, q1, s1⟩
    have m1 := s1.s (6 :: 4 :: id) (A _ _) (nsuf (by decide))
    simp at m1
    simp [encI]
    repeat' first
      | (refine PW.seq ?_)
      | (refine PW.rg (Mofq [10, 19, 20, 21, 22, 23] [12, 15]) mixed (by kernel_rfl) ?_; simp [pEqNil, hk0, hk1, encI, m1])
      | (refine PW.skip ?_; simp)
      | (refine PW.ret ?_; simp [pEqNil, hk0, hk1, encI, m1]; done)
      | (refine PW.ret ?_; simp [pEqNil, hk0, hk1, encI, m1])
      | (refine PW.exit ?_; simp)
      | (refine PW.condV ?_; simp [pEqNil, hk0, hk1, encI, m1])
      | (refine PW.block ?_)
      | (refine And.intro ?_ ?_)
      | (with_reducible intro _)
    have nF : ∀ i, F1 i → i ≠ 5 :: 5 :: id := by
      rintro i hf rfl
      exact (s1.f _ hf).elim (A _ _) (nsuf (by decide))
    refine ⟨_, ⟨F1, q1.congr (fun i hi => ?_), ⟨fun j hj => (s1.f j hj).imp (fun e => e) suffix_tail2, fun j h1 h2 => ?_⟩⟩, fun _ _ h => h⟩
    · have := nF i hi
      simp [this]
    · have e1 : j ≠ 5 :: 5 :: id := by rintro rfl; exact h2 (und id [5, 5])
      have e2 : j ≠ 6 :: 4 :: id := by rintro rfl; exact h2 (und id [6, 4])
      have e3 : j ≠ 0 :: 0 :: id := by rintro rfl; exact h2 (und id [0, 0])
      have := s1.s j h1 (fun hs => h2 (suffix_tail2 hs))
      simp [e1, this, e2, e3]
  by_cases hk2 : k = 2
  · have hst : stepL l k x = l := by simp [stepL, hk2]
    rw [hst]
    repeat' first
      | (refine PW.seq ?_)
      | (refine PW.rg (Mofq [10, 19, 20, 21, 22, 23] [12, 15]) mixed (by kernel_rfl) ?_; simp [pEqNil, hk0, hk1, hk2])
      | (refine PW.skip ?_; simp)
      | (refine PW.ret ?_; simp [pEqNil, hk0, hk1, hk2]; done)
      | (refine PW.ret ?_; simp [pEqNil, hk0, hk1, hk2])
      | (refine PW.exit ?_; simp)
      | (refine PW.condV ?_; simp [pEqNil, hk0, hk1, hk2])
      | (refine PW.block ?_)
      | (refine And.intro ?_ ?_)
      | (with_reducible intro _)
    refine CallF.flat (r20 l (by omega)) (by simp) ?_; simp [encI]
    repeat' first
      | (refine PW.seq ?_)
      | (refine PW.rg (Mofq [10, 19, 20, 21, 22, 23] [12, 15]) mixed (by kernel_rfl) ?_; simp [pEqNil, hk0, hk1, hk2, encI])
      | (refine PW.skip ?_; simp)
      | (refine PW.ret ?_; simp [pEqNil, hk0, hk1, hk2, encI]; done)
      | (refine PW.ret ?_; simp [pEqNil, hk0, hk1, hk2, encI])
      | (refine PW.exit ?_; simp)
      | (refine PW.condV ?_; simp [pEqNil, hk0, hk1, hk2, encI])
      | (refine PW.block ?_)
      | (refine And.intro ?_ ?_)
      | (with_reducible intro _)
    refine CallS.of (b17 ((((h.put (A _ _)).put (A _ _)).put (A _ _))) _) ?_; rintro _ _ ⟨rfl, rfl⟩
    simp [encI]
    repeat' first
      | (refine PW.seq ?_)
      | (refine PW.rg (Mofq [10, 19, 20, 21, 22, 23] [12, 15]) mixed (by kernel_rfl) ?_; simp [pEqNil, hk0, hk1, hk2, encI])
      | (refine PW.skip ?_; simp)
      | (refine PW.ret ?_; simp [pEqNil, hk0, hk1, hk2, encI]; done)
      | (refine PW.ret ?_; simp [pEqNil, hk0, hk1, hk2, encI])
      | (refine PW.exit ?_; simp)
      | (refine PW.condV ?_; simp [pEqNil, hk0, hk1, hk2, encI])
      | (refine PW.block ?_)
      | (refine And.intro ?_ ?_)
      | (with_reducible intro _)
    refine ⟨_, ⟨F, h.congr (fun i hi => ?_), ⟨fun j hj => .inl hj, fun j h1 h2 => ?_⟩⟩, fun _ _ h => h⟩
    · have e1 : i ≠ 5 :: 6 :: id := by rintro rfl; exact A _ _ hi
      have e2 : i ≠ 6 :: 5 :: id := by rintro rfl; exact A _ _ hi
      have e3 : i ≠ 0 :: 0 :: id := by rintro rfl; exact A _ _ hi
      simp [e1, e2, e3]
    · have e1 : j ≠ 5 :: 6 :: id := by rintro rfl; exact h2 (und id [5, 6])
      have e2 : j ≠ 6 :: 5 :: id := by rintro rfl; exact h2 (und id [6, 5])
      have e3 : j ≠ 0 :: 0 :: id := by rintro rfl; exact h2 (und id [0, 0])
      simp [e1, e2, e3]
  by_cases hk3 : k = 3
  · have hst : stepL l k x = fixI l x.1 x.2 := by simp [stepL, hk3]
    rw [hst]
    repeat' first
      | (refine PW.seq ?_)
      | (refine PW.rg (Mofq [10, 19, 20, 21, 22, 23] [12, 15]) mixed (by kernel_rfl) ?_; simp [pEqNil, hk0, hk1, hk2, hk3])
      | (refine PW.skip ?_; simp)
      | (refine PW.ret ?_; simp [pEqNil, hk0, hk1, hk2, hk3]; done)
      | (refine PW.ret ?_; simp [pEqNil, hk0, hk1, hk2, hk3])
      | (refine PW.exit ?_; simp)
      | (refine PW.condV ?_; simp [pEqNil, hk0, hk1, hk2, hk3])
      | (refine PW.block ?_)
      | (refine And.intro ?_ ?_)
      | (with_reducible intro _)
    refine CallF.flat (r21 l x (by omega) hn) (by simp) ?_; simp
    repeat' first
      | (refine PW.seq ?_)
      | (refine PW.rg (Mofq [10, 19, 20, 21, 22, 23] [12, 15]) mixed (by kernel_rfl) ?_; simp [pEqNil, hk0, hk1, hk2, hk3])
      | (refine PW.skip ?_; simp)
      | (refine PW.ret ?_; simp [pEqNil, hk0, hk1, hk2, hk3]; done)
      | (refine PW.ret ?_; simp [pEqNil, hk0, hk1, hk2, hk3])
      | (refine PW.exit ?_; simp)
      | (refine PW.condV ?_; simp [pEqNil, hk0, hk1, hk2, hk3])
      | (refine PW.block ?_)
      | (refine And.intro ?_ ?_)
      | (with_reducible intro _)
    refine CallS.of (a18 (h.put (A _ _)) _ x.1 x.2) ?_; rintro _ σ1 ⟨rfl, F1, q1, s1⟩; simp
    repeat' first
      | (refine PW.seq ?_)
      | (refine PW.rg (Mofq [10, 19, 20, 21, 22, 23] [12, 15]) mixed (by kernel_rfl) ?_; simp [pEqNil, hk0, hk1, hk2, hk3])
      | (refine PW.skip ?_; simp)
      | (refine PW.ret ?_; simp [pEqNil, hk0, hk1, hk2, hk3]; done)
      | (refine PW.ret ?_; simp [pEqNil, hk0, hk1, hk2, hk3])
      | (refine PW.exit ?_; simp)
      | (refine PW.condV ?_; simp [pEqNil, hk0, hk1, hk2, hk3])
      | (refine PW.block ?_)
      | (refine And.intro ?_ ?_)
      | (with_reducible intro _)
    exact ⟨σ1, ⟨F1, q1, s1.up.base (upd_base b0)⟩, fun _ _ h => h⟩
  by_cases hk4 : k = 4
  · have hst : stepL l k x = rmI l x.1 := by simp [stepL, hk4]
    rw [hst]
    repeat' first
      | (refine PW.seq ?_)
      | (refine PW.rg (Mofq [10, 19, 20, 21, 22, 23] [12, 15]) mixed (by kernel_rfl) ?_; simp [pEqNil, hk0, hk1, hk2, hk3, hk4])
      | (refine PW.skip ?_; simp)
      | (refine PW.ret ?_; simp [pEqNil, hk0, hk1, hk2, hk3, hk4]; done)
      | (refine PW.ret ?_; simp [pEqNil, hk0, hk1, hk2, hk3, hk4])
      | (refine PW.exit ?_; simp)
      | (refine PW.condV ?_; simp [pEqNil, hk0, hk1, hk2, hk3, hk4])
      | (refine PW.block ?_)
      | (refine And.intro ?_ ?_)
      | (with_reducible intro _)
    refine CallF.flat (r22 l x.1 (by omega) hn) (by simp) ?_; simp
    repeat' first
      | (refine PW.seq ?_)
      | (refine PW.rg (Mofq [10, 19, 20, 21, 22, 23] [12, 15]) mixed (by kernel_rfl) ?_; simp [pEqNil, hk0, hk1, hk2, hk3, hk4])
      | (refine PW.skip ?_; simp)
      | (refine PW.ret ?_; simp [pEqNil, hk0, hk1, hk2, hk3, hk4]; done)
      | (refine PW.ret ?_; simp [pEqNil, hk0, hk1, hk2, hk3, hk4])
      | (refine PW.exit ?_; simp)
      | (refine PW.condV ?_; simp [pEqNil, hk0, hk1, hk2, hk3, hk4])
      | (refine PW.block ?_)
      | (refine And.intro ?_ ?_)
      | (with_reducible intro _)
    refine CallS.of (a14 (h.put (A _ _)) _ x.1) ?_; rintro _ σ1 ⟨rfl, F1, q1, s1⟩; simp
    repeat' first
      | (refine PW.seq ?_)
      | (refine PW.rg (Mofq [10, 19, 20, 21, 22, 23] [12, 15]) mixed (by kernel_rfl) ?_; simp [pEqNil, hk0, hk1, hk2, hk3, hk4])
      | (refine PW.skip ?_; simp)
      | (refine PW.ret ?_; simp [pEqNil, hk0, hk1, hk2, hk3, hk4]; done)
      | (refine PW.ret ?_; simp [pEqNil, hk0, hk1, hk2, hk3, hk4])
      | (refine PW.exit ?_; simp)
      | (refine PW.condV ?_; simp [pEqNil, hk0, hk1, hk2, hk3, hk4])
      | (refine PW.block ?_)
      | (refine And.intro ?_ ?_)
      | (with_reducible intro _)
    exact ⟨σ1, ⟨F1, q1, s1.up.base (upd_base b0)⟩, fun _ _ h => h⟩
  · have hst : stepL l k x = l := by simp [stepL, hk0, hk1, hk2, hk3, hk4]
    rw [hst]
    repeat' first
      | (refine PW.seq ?_)
      | (refine PW.rg (Mofq [10, 19, 20, 21, 22, 23] [12, 15]) mixed (by kernel_rfl) ?_; simp [pEqNil, hk0, hk1, hk2, hk3, hk4])
      | (refine PW.skip ?_; simp)
      | (refine PW.ret ?_; simp [pEqNil, hk0, hk1, hk2, hk3, hk4]; done)
      | (refine PW.ret ?_; simp [pEqNil, hk0, hk1, hk2, hk3, hk4])
      | (refine PW.exit ?_; simp)
      | (refine PW.condV ?_; simp [pEqNil, hk0, hk1, hk2, hk3, hk4])
      | (refine PW.block ?_)
      | (refine And.intro ?_ ?_)
      | (with_reducible intro _)
    refine CallS.of (a11 (h.put (A _ _)) _) ?_; rintro _ _ (⟨rfl, rfl, rfl⟩ | ⟨rfl, rfl⟩)
    · simp
      repeat' first
        | (refine PW.seq ?_)
        | (refine PW.rg (Mofq [10, 19, 20, 21, 22, 23] [12, 15]) mixed (by kernel_rfl) ?_; simp [pEqNil, hk0, hk1, hk2, hk3, hk4])
        | (refine PW.skip ?_; simp)
        | (refine PW.ret ?_; simp [pEqNil, hk0, hk1, hk2, hk3, hk4]; done)
        | (refine PW.ret ?_; simp [pEqNil, hk0, hk1, hk2, hk3, hk4])
        | (refine PW.exit ?_; simp)
        | (refine PW.condV ?_; simp [pEqNil, hk0, hk1, hk2, hk3, hk4])
        | (refine PW.block ?_)
        | (refine And.intro ?_ ?_)
        | (with_reducible intro _)
      refine CallF.sameNil ?_; simp
      repeat' first
        | (refine PW.seq ?_)
        | (refine PW.rg (Mofq [10, 19, 20, 21, 22, 23] [12, 15]) mixed (by kernel_rfl) ?_; simp [pEqNil, hk0, hk1, hk2, hk3, hk4])
        | (refine PW.skip ?_; simp)
        | (refine PW.ret ?_; simp [pEqNil, hk0, hk1, hk2, hk3, hk4]; done)
        | (refine PW.ret ?_; simp [pEqNil, hk0, hk1, hk2, hk3, hk4])
        | (refine PW.exit ?_; simp)
        | (refine PW.condV ?_; simp [pEqNil, hk0, hk1, hk2, hk3, hk4])
        | (refine PW.block ?_)
        | (refine And.intro ?_ ?_)
        | (with_reducible intro _)
      refine CallQ.of (a15 (h.put (A _ _)) _ x.1) ?_; simp
      repeat' first
        | (refine PW.seq ?_)
        | (refine PW.rg (Mofq [10, 19, 20, 21, 22, 23] [12, 15]) mixed (by kernel_rfl) ?_; simp [pEqNil, hk0, hk1, hk2, hk3, hk4])
        | (refine PW.skip ?_; simp)
        | (refine PW.ret ?_; simp [pEqNil, hk0, hk1, hk2, hk3, hk4]; done)
        | (refine PW.ret ?_; simp [pEqNil, hk0, hk1, hk2, hk3, hk4])
        | (refine PW.exit ?_; simp)
        | (refine PW.condV ?_; simp [pEqNil, hk0, hk1, hk2, hk3, hk4])
        | (refine PW.block ?_)
        | (refine And.intro ?_ ?_)
        | (with_reducible intro _)
      refine CallF.flat (r23 [] x.1 (by simp)) (by simp) ?_; simp
      repeat' first
        | (refine PW.seq ?_)
        | (refine PW.rg (Mofq [10, 19, 20, 21, 22, 23] [12, 15]) mixed (by kernel_rfl) ?_; simp [pEqNil, hk0, hk1, hk2, hk3, hk4])
        | (refine PW.skip ?_; simp)
        | (refine PW.ret ?_; simp [pEqNil, hk0, hk1, hk2, hk3, hk4]; done)
        | (refine PW.ret ?_; simp [pEqNil, hk0, hk1, hk2, hk3, hk4])
        | (refine PW.exit ?_; simp)
        | (refine PW.condV ?_; simp [pEqNil, hk0, hk1, hk2, hk3, hk4])
        | (refine PW.block ?_)
        | (refine And.intro ?_ ?_)
        | (with_reducible intro _)
      refine CallQ.of (a12 (h.put (A _ _)) _) ?_; simp
      repeat' first
        | (refine PW.seq ?_)
        | (refine PW.rg (Mofq [10, 19, 20, 21, 22, 23] [12, 15]) mixed (by kernel_rfl) ?_; simp [pEqNil, hk0, hk1, hk2, hk3, hk4])
        | (refine PW.skip ?_; simp)
        | (refine PW.ret ?_; simp [pEqNil, hk0, hk1, hk2, hk3, hk4]; done)
        | (refine PW.ret ?_; simp [pEqNil, hk0, hk1, hk2, hk3, hk4])
        | (refine PW.exit ?_; simp)
        | (refine PW.condV ?_; simp [pEqNil, hk0, hk1, hk2, hk3, hk4])
        | (refine PW.block ?_)
        | (refine And.intro ?_ ?_)
        | (with_reducible intro _)
      refine ⟨_, ⟨F, h.congr (fun i hi => ?_), ⟨fun j hj => .inl hj, fun j h1 h2 => ?_⟩⟩, fun _ _ h => h⟩
      · have e3 : i ≠ 0 :: 0 :: id := by rintro rfl; exact A _ _ hi
        simp [e3]
      · have e3 : j ≠ 0 :: 0 :: id := by rintro rfl; exact h2 (und id [0, 0])
        simp [e3]
    · simp
      repeat' first
        | (refine PW.seq ?_)
        | (refine PW.rg (Mofq [10, 19, 20, 21, 22, 23] [12, 15]) mixed (by kernel_rfl) ?_; simp [pEqNil, hk0, hk1, hk2, hk3, hk4])
        | (refine PW.skip ?_; simp)
        | (refine PW.ret ?_; simp [pEqNil, hk0, hk1, hk2, hk3, hk4]; done)
        | (refine PW.ret ?_; simp [pEqNil, hk0, hk1, hk2, hk3, hk4])
        | (refine PW.exit ?_; simp)
        | (refine PW.condV ?_; simp [pEqNil, hk0, hk1, hk2, hk3, hk4])
        | (refine PW.block ?_)
        | (refine And.intro ?_ ?_)
        | (with_reducible intro _)
      refine CallF.same (by simp) (by omega) (by omega) ?_
      intro σ2 h2
      have n0 : (0 :: 0 :: id) ≠ 2 :: 2 :: 5 :: 2 :: 2 :: 7 :: id := by
        intro e
        have := congrArg List.length e
        simp at this
      have mm2 := h2 (0 :: 0 :: id) n0
      simp [n0] at mm2
      have nF : ∀ i, F i → i ≠ 0 :: 0 :: id ∧ i ≠ 2 :: 2 :: 5 :: 2 :: 2 :: 7 :: id := fun i hi => ⟨by rintro rfl; exact A _ _ hi, by rintro rfl; exact not_und hN [2, 2, 5, 2, 2, 7] hi⟩
      have q2 : QA σ2 q F l := h.congr fun i hi => by
        rw [h2 i (nF i hi).2]
        simp [nF i hi]
      have s2 : ∀ j, ¬ id <:+ j → σ2 j = σ j := fun j hj => by
        have e1 : j ≠ 0 :: 0 :: id := by rintro rfl; exact hj (und id [0, 0])
        have e2 : j ≠ 2 :: 2 :: 5 :: 2 :: 2 :: 7 :: id := by rintro rfl; exact hj (und id [2, 2, 5, 2, 2, 7])
        rw [h2 j e2]
        simp [e1, e2]
      simp [mm2]
      repeat' first
        | (refine PW.seq ?_)
        | (refine PW.rg (Mofq [10, 19, 20, 21, 22, 23] [12, 15]) mixed (by kernel_rfl) ?_; simp [pEqNil, hk0, hk1, hk2, hk3, hk4, mm2])
        | (refine PW.skip ?_; simp)
        | (refine PW.ret ?_; simp [pEqNil, hk0, hk1, hk2, hk3, hk4, mm2]; done)
        | (refine PW.ret ?_; simp [pEqNil, hk0, hk1, hk2, hk3, hk4, mm2])
        | (refine PW.exit ?_; simp)
        | (refine PW.condV ?_; simp [pEqNil, hk0, hk1, hk2, hk3, hk4, mm2])
        | (refine PW.block ?_)
        | (refine And.intro ?_ ?_)
        | (with_reducible intro _)
      refine CallQ.of (a15 q2 _ x.1) ?_; simp [mm2]
      repeat' first
        | (refine PW.seq ?_)
        | (refine PW.rg (Mofq [10, 19, 20, 21, 22, 23] [12, 15]) mixed (by kernel_rfl) ?_; simp [pEqNil, hk0, hk1, hk2, hk3, hk4, mm2])
        | (refine PW.skip ?_; simp)
        | (refine PW.ret ?_; simp [pEqNil, hk0, hk1, hk2, hk3, hk4, mm2]; done)
        | (refine PW.ret ?_; simp [pEqNil, hk0, hk1, hk2, hk3, hk4, mm2])
        | (refine PW.exit ?_; simp)
        | (refine PW.condV ?_; simp [pEqNil, hk0, hk1, hk2, hk3, hk4, mm2])
        | (refine PW.block ?_)
        | (refine And.intro ?_ ?_)
        | (with_reducible intro _)
      refine CallF.flat (r23 l x.1 (by omega)) (by simp) ?_; simp [mm2]
      repeat' first
        | (refine PW.seq ?_)
        | (refine PW.rg (Mofq [10, 19, 20, 21, 22, 23] [12, 15]) mixed (by kernel_rfl) ?_; simp [pEqNil, hk0, hk1, hk2, hk3, hk4, mm2])
        | (refine PW.skip ?_; simp)
        | (refine PW.ret ?_; simp [pEqNil, hk0, hk1, hk2, hk3, hk4, mm2]; done)
        | (refine PW.ret ?_; simp [pEqNil, hk0, hk1, hk2, hk3, hk4, mm2])
        | (refine PW.exit ?_; simp)
        | (refine PW.condV ?_; simp [pEqNil, hk0, hk1, hk2, hk3, hk4, mm2])
        | (refine PW.block ?_)
        | (refine And.intro ?_ ?_)
        | (with_reducible intro _)
      refine CallQ.of (a12 q2 _) ?_; simp [mm2]
      repeat' first
        | (refine PW.seq ?_)
        | (refine PW.rg (Mofq [10, 19, 20, 21, 22, 23] [12, 15]) mixed (by kernel_rfl) ?_; simp [pEqNil, hk0, hk1, hk2, hk3, hk4, mm2])
        | (refine PW.skip ?_; simp)
        | (refine PW.ret ?_; simp [pEqNil, hk0, hk1, hk2, hk3, hk4, mm2]; done)
        | (refine PW.ret ?_; simp [pEqNil, hk0, hk1, hk2, hk3, hk4, mm2])
        | (refine PW.exit ?_; simp)
        | (refine PW.condV ?_; simp [pEqNil, hk0, hk1, hk2, hk3, hk4, mm2])
        | (refine PW.block ?_)
        | (refine And.intro ?_ ?_)
        | (with_reducible intro _)
      exact ⟨σ2, ⟨F, q2, ⟨fun j hj => .inl hj, fun j _ hj => s2 j hj⟩⟩, fun _ _ h => h⟩
end
end QT
end

section
set_option linter.unusedSimpArgs false
set_option linter.unusedVariables false
set_option linter.constructorNameAsVariable false
/- QueueRuns' contract. Printed in part by a program. -/
open Go hiding Id
open Go.PM
theorem QT.arg {P : Program} {id : PM.Id} {f : FuncId} {args args' : List PV} {σ : Sto} {Q : PV → Sto → Prop} (h : PCS P id f args' σ Q) (ha : ∀ F ι vals, VRs F ι args vals → VRs F ι args' vals) : PCS P id f args σ Q :=
  ⟨h.1, fun base F ι w vals hm hf hv => h.2 base F ι w vals hm hf (ha F ι vals hv)⟩
open Go hiding Id
open Go.Proofs Go.PM
set_option linter.unusedSimpArgs false
set_option linter.unusedVariables false
namespace QT
attribute [local irreducible] PW FL FR FS FB FM FG CallF CallS CallQ PC PCS bindK condK

abbrev Op3 := Int × It
def encO (o : Op3) : List PV := [.v (.int .i64 o.1), .v (.int .i64 o.2.1), .v (.int .i64 o.2.2)]
@[simp] theorem encO_len (x : Op3) : (encO x).length = 3 := (rfl)
@[simp] theorem encO_one (x : Op3) : (encO x).all PV.one = true := (rfl)
@[simp] theorem encO_one' (x : Op3) : (∀ p, p ∈ encO x → p.one = true) ↔ True := by simp [encO]
@[simp] theorem encO_take (x : Op3) : (encO x).take 3 = encO x := (rfl)
@[simp] theorem encO_drop (x : Op3) : (encO x).drop 3 = [] := (rfl)

/-- The list that the document keeps: nil at first. -/
def IsL (p : PV) (l : List It) : Prop := p = .sl (l.map encI) ∨ (l = [] ∧ p = .nilS)
theorem IsL.vr {p : PV} {l : List It} (h : IsL p l) {F : Froz} {ι : PM.Loc} {x : Value} (hv : VR F ι p x) : VR F ι (.sl (l.map encI)) x := by
  rcases h with rfl | ⟨rfl, rfl⟩
  · exact hv
  · cases hv; exact .slNil _

theorem vrs3 {F : Froz} {ι : PM.Loc} {a b b' c : PV} {vals : Array Value} (h : VRs F ι [a, b, c] vals) (hb : ∀ x, VR F ι b x → VR F ι b' x) : VRs F ι [a, b', c] vals := by
  refine ⟨h.1, fun j p hj => ?_⟩
  match j, hj with
  | 0, hj => exact h.2 0 p hj
  | 1, hj => injection hj with hj; subst hj; exact hb _ (h.2 1 b rfl)
  | 2, hj => exact h.2 2 p hj
  | j + 3, hj => cases hj

section
variable {σ : Sto} {q : PM.Id} {F : PM.Id → Prop} {l : List It}
theorem c9' (h : QA σ q F l) (id : PM.Id) (hN : ∀ j, F j → ¬ id <:+ j) (o : Op3) {p : PV} (hp : IsL p l) :
    PCS Try.prog id 9 [.ptr q 0 0, p, .agg (encO o)] σ (fun r σ' => r = .tup [.sl ((stepL l o.1 o.2).map encI), .v (.bool true)] ∧ ∃ F', QA σ' q F' (stepL l o.1 o.2) ∧ Stp id σ F σ' F') :=
  arg (c9 h id hN o.1 o.2) fun F ι vals hv => vrs3 hv fun x hx => hp.vr hx
end

theorem CallF.same' {σ : Sto} {j : PM.Id} {l m : List It} {p : PV} (hp : IsL p m) {d : Option Tmp} {t : Nat → PV} {c : Nat} {K : PSt → Prop} (hj : σ j = some (.cells (l.map encI) true)) (hl : l.length ≤ 100000) (hm : m.length ≤ 100000)
    (hK : ∀ σ2, (∀ i, i ≠ j → σ2 i = σ i) → K ⟨putT t d (.v (.bool (decide (l = m)))), σ2, c⟩) : CallF Try.prog 10 [.own j 40 0 l.length, p] d ⟨t, σ, c⟩ K := by
  rcases hp with rfl | ⟨rfl, rfl⟩
  · exact CallF.same hj hl hm hK
  · refine CallF.mk (args' := [.sl (l.map encI), .sl []]) ?_ (c10 l [] hl hm) (hK _ ?_)
    · have := frz_it (n := 10) (e := 40) hj
      simp only [mapO, depthF]
      rw [this]
      rfl
    · intro i hi
      have := frzIds_it (n := 10) (e := 40) hj
      simp only [List.flatMap_cons, List.flatMap_nil, depthF, this]
      simp [frzIds, PM.mark, hi]
theorem CallF.sameNil' {σ : Sto} {p : PV} (hp : IsL p []) {d : Option Tmp} {t : Nat → PV} {c : Nat} {K : PSt → Prop} (hK : K ⟨putT t d (.v (.bool true)), σ, c⟩) : CallF Try.prog 10 [.nilS, p] d ⟨t, σ, c⟩ K := by
  rcases hp with rfl | ⟨_, rfl⟩
  · exact CallF.sameNil hK
  · refine CallF.mk (args' := [.sl [], .sl []]) rfl (by have := c10 [] [] (by simp) (by simp); simpa using this) ?_
    have : ([PV.nilS, PV.nilS].flatMap (frzIds depthF σ)) = [] := rfl
    rw [this, mark_nil]
    exact hK

theorem c3 (ops : List Op3) : PC Try.prog 3 [.sl (ops.map encO)] (.v (.bool true)) := by
  refine PC.of' Try.func3 rfl (by simp) ?_
  by_cases hb : 600 < ops.length
  · have hb' : (600 : Int) < (ops.length : Int) := by omega
    repeat' first
      | (refine PW.seq ?_)
      | (refine PW.rg (Mofq [7, 10] [12]) mixed (by kernel_rfl) ?_; simp [pEqNil, hb'])
      | (refine PW.skip ?_; simp)
      | (refine PW.ret ?_; simp [pEqNil, hb']; done)
      | (refine PW.ret ?_; simp [pEqNil, hb'])
      | (refine PW.exit ?_; simp)
      | (refine PW.condV ?_; simp [pEqNil, hb'])
      | (refine PW.block ?_)
      | (refine And.intro ?_ ?_)
      | (with_reducible intro _)
    refine CallF.flat c7 (by simp) ?_; simp
    repeat' first
      | (refine PW.seq ?_)
      | (refine PW.rg (Mofq [7, 10] [12]) mixed (by kernel_rfl) ?_; simp [pEqNil, hb'])
      | (refine PW.skip ?_; simp)
      | (refine PW.ret ?_; simp [pEqNil, hb']; done)
      | (refine PW.ret ?_; simp [pEqNil, hb'])
      | (refine PW.exit ?_; simp)
      | (refine PW.condV ?_; simp [pEqNil, hb'])
      | (refine PW.block ?_)
      | (refine And.intro ?_ ?_)
      | (with_reducible intro _)
  have hb' : ¬ (600 : Int) < (ops.length : Int) := by omega
  repeat' first
    | (refine PW.seq ?_)
    | (refine PW.rg (Mofq [7, 10] [12]) mixed (by kernel_rfl) ?_; simp [pEqNil, hb'])
    | (refine PW.skip ?_; simp)
    | (refine PW.ret ?_; simp [pEqNil, hb']; done)
    | (refine PW.ret ?_; simp [pEqNil, hb'])
    | (refine PW.exit ?_; simp)
    | (refine PW.condV ?_; simp [pEqNil, hb'])
    | (refine PW.block ?_)
    | (refine And.intro ?_ ?_)
    | (with_reducible intro _)
  refine CallF.flat c7 (by simp) ?_; simp
  repeat' first
    | (refine PW.seq ?_)
    | (refine PW.rg (Mofq [7, 10] [12]) mixed (by kernel_rfl) ?_; simp [pEqNil, hb'])
    | (refine PW.skip ?_; simp)
    | (refine PW.ret ?_; simp [pEqNil, hb']; done)
    | (refine PW.ret ?_; simp [pEqNil, hb'])
    | (refine PW.exit ?_; simp)
    | (refine PW.condV ?_; simp [pEqNil, hb'])
    | (refine PW.block ?_)
    | (refine And.intro ?_ ?_)
    | (with_reducible intro _)
  refine CallS.of (a8 _) ?_; rintro _ σ1 ⟨rfl, F1, q1, s1⟩; simp
  have l1 := (Lies.none []).step s1
  repeat' first
    | (refine PW.seq ?_)
    | (refine PW.rg (Mofq [7, 10] [12]) mixed (by kernel_rfl) ?_; simp [pEqNil, hb'])
    | (refine PW.skip ?_; simp)
    | (refine PW.ret ?_; simp [pEqNil, hb']; done)
    | (refine PW.ret ?_; simp [pEqNil, hb'])
    | (refine PW.exit ?_; simp)
    | (refine PW.condV ?_; simp [pEqNil, hb'])
    | (refine PW.block ?_)
    | (refine And.intro ?_ ?_)
    | (with_reducible intro _)
  refine PW.loop (fun n s => ∃ (j : Nat) (l : List It) (F : PM.Id → Prop) (p : PV), n = ops.length - j ∧ j ≤ ops.length ∧ s.t 17 = .v (.int .i64 j) ∧ s.t 16 = .v (.int .i64 ops.length) ∧ s.t 15 = .sl (ops.map encO) ∧ s.t 3 = .ptr [3, 1, 0, 3] 0 0 ∧ s.t 4 = p ∧ IsL p l ∧ QA s.σ [3, 1, 0, 3] F l ∧ Lies [] (fun _ c' => c' < s.c) F) ops.length ?_ ?_
  · exact ⟨0, [], F1, .nilS, rfl, by omega, by simp, by simp, by simp, by simp, by simp, .inr ⟨rfl, rfl⟩, q1, l1.mono fun i c h => by simp at h ⊢; omega⟩
  rintro n ⟨t, σ, c⟩ ⟨j, l, F, p, rfl, hj, h17, h16, h15, h3, h4, hp, hq, hL⟩
  simp only at h17 h16 h15 h3 h4 hq hL
  by_cases hjl : j < ops.length
  · have go : (ops.map encO)[j]? = some (encO ops[j]) := by simp [hjl]
    have hji : (j : Int) < (ops.length : Int) := by omega
    have hw : IntKind.i64.wrap ((j : Int) + 1) = ((j + 1 : Nat) : Int) := by rw [wrap64 (by omega) (by omega)]; omega
    repeat' first
      | (refine PW.seq ?_)
      | (refine PW.rg (Mofq [7, 10] [12]) mixed (by kernel_rfl) ?_; simp [pEqNil, h17, h16, h15, h3, h4, go, hjl, hji, hw])
      | (refine PW.skip ?_; simp)
      | (refine PW.ret ?_; simp [pEqNil, h17, h16, h15, h3, h4, go, hjl, hji, hw]; done)
      | (refine PW.ret ?_; simp [pEqNil, h17, h16, h15, h3, h4, go, hjl, hji, hw])
      | (refine PW.exit ?_; simp)
      | (refine PW.condV ?_; simp [pEqNil, h17, h16, h15, h3, h4, go, hjl, hji, hw])
      | (refine PW.block ?_)
      | (refine And.intro ?_ ?_)
      | (with_reducible intro _)
    refine CallS.of (c9' ((hq.put (hL.at (by omega))).put (hL.at (by omega))) _ (hL.no (by omega)) ops[j] hp) ?_; rintro _ σ2 ⟨rfl, F2, q2, s2⟩
    have hL2 := hL.step s2
    simp
    repeat' first
      | (refine PW.seq ?_)
      | (refine PW.rg (Mofq [7, 10] [12]) mixed (by kernel_rfl) ?_; simp [pEqNil, h17, h16, h15, h3, h4, go, hjl, hji, hw])
      | (refine PW.skip ?_; simp)
      | (refine PW.ret ?_; simp [pEqNil, h17, h16, h15, h3, h4, go, hjl, hji, hw]; done)
      | (refine PW.ret ?_; simp [pEqNil, h17, h16, h15, h3, h4, go, hjl, hji, hw])
      | (refine PW.exit ?_; simp)
      | (refine PW.condV ?_; simp [pEqNil, h17, h16, h15, h3, h4, go, hjl, hji, hw])
      | (refine PW.block ?_)
      | (refine And.intro ?_ ?_)
      | (with_reducible intro _)
    exact ⟨ops.length - (j + 1), by omega, j + 1, rfl, by omega, by omega, _, .inl rfl, F2, q2, hL2.mono fun i c' h => by omega⟩
  · have hji : ¬ (j : Int) < (ops.length : Int) := by omega
    repeat' first
      | (refine PW.seq ?_)
      | (refine PW.rg (Mofq [7, 10] [12]) mixed (by kernel_rfl) ?_; simp [pEqNil, h17, h16, h15, h3, h4, hji])
      | (refine PW.skip ?_; simp)
      | (refine PW.ret ?_; simp [pEqNil, h17, h16, h15, h3, h4, hji]; done)
      | (refine PW.ret ?_; simp [pEqNil, h17, h16, h15, h3, h4, hji])
      | (refine PW.exit ?_; simp)
      | (refine PW.condV ?_; simp [pEqNil, h17, h16, h15, h3, h4, hji])
      | (refine PW.block ?_)
      | (refine And.intro ?_ ?_)
      | (with_reducible intro _)
    have hpl : ∀ σ, pLen Try.prog σ 26 p = some (.v (.int .i64 l.length)) := fun σ => by rcases hp with rfl | ⟨rfl, rfl⟩ <;> simp
    refine CallS.of (a11 hq _) ?_; rintro _ _ (⟨rfl, rfl, rfl⟩ | ⟨rfl, rfl⟩)
    · simp [h17, h16, h15, h3, h4]
      repeat' first
        | (refine PW.seq ?_)
        | (refine PW.rg (Mofq [7, 10] [12]) mixed (by kernel_rfl) ?_; simp [pEqNil, h17, h16, h15, h3, h4])
        | (refine PW.skip ?_; simp)
        | (refine PW.ret ?_; simp [pEqNil, h17, h16, h15, h3, h4]; done)
        | (refine PW.ret ?_; simp [pEqNil, h17, h16, h15, h3, h4])
        | (refine PW.exit ?_; simp)
        | (refine PW.condV ?_; simp [pEqNil, h17, h16, h15, h3, h4])
        | (refine PW.block ?_)
        | (refine And.intro ?_ ?_)
        | (with_reducible intro _)
      refine CallF.sameNil' hp ?_; simp [h3, h4]
      repeat' first
        | (refine PW.seq ?_)
        | (refine PW.rg (Mofq [7, 10] [12]) mixed (by kernel_rfl) ?_; simp [pEqNil, h17, h16, h15, h3, h4])
        | (refine PW.skip ?_; simp)
        | (refine PW.ret ?_; simp [pEqNil, h17, h16, h15, h3, h4]; done)
        | (refine PW.ret ?_; simp [pEqNil, h17, h16, h15, h3, h4])
        | (refine PW.exit ?_; simp)
        | (refine PW.condV ?_; simp [pEqNil, h17, h16, h15, h3, h4])
        | (refine PW.block ?_)
        | (refine And.intro ?_ ?_)
        | (with_reducible intro _)
      refine CallQ.of (a12 hq _) ?_; simp [h17, h16, h15, h3, h4, hpl, -pLen]
      repeat' first
        | (refine PW.seq ?_)
        | (refine PW.rg (Mofq [7, 10] [12]) mixed (by kernel_rfl) ?_; simp [pEqNil, h17, h16, h15, h3, h4, hpl, -pLen])
        | (refine PW.skip ?_; simp)
        | (refine PW.ret ?_; simp [pEqNil, h17, h16, h15, h3, h4, hpl, -pLen]; done)
        | (refine PW.ret ?_; simp [pEqNil, h17, h16, h15, h3, h4, hpl, -pLen])
        | (refine PW.exit ?_; simp)
        | (refine PW.condV ?_; simp [pEqNil, h17, h16, h15, h3, h4, hpl, -pLen])
        | (refine PW.block ?_)
        | (refine And.intro ?_ ?_)
        | (with_reducible intro _)
    · simp [h17, h16, h15, h3, h4]
      repeat' first
        | (refine PW.seq ?_)
        | (refine PW.rg (Mofq [7, 10] [12]) mixed (by kernel_rfl) ?_; simp [pEqNil, h17, h16, h15, h3, h4])
        | (refine PW.skip ?_; simp)
        | (refine PW.ret ?_; simp [pEqNil, h17, h16, h15, h3, h4]; done)
        | (refine PW.ret ?_; simp [pEqNil, h17, h16, h15, h3, h4])
        | (refine PW.exit ?_; simp)
        | (refine PW.condV ?_; simp [pEqNil, h17, h16, h15, h3, h4])
        | (refine PW.block ?_)
        | (refine And.intro ?_ ?_)
        | (with_reducible intro _)
      refine CallF.same' hp (by simp) (by have := hq.len; omega) (by have := hq.len; omega) ?_
      intro σ2 h2
      have q2 : QA σ2 [3, 1, 0, 3] F l := hq.congr fun i hi => by
        have e : i ≠ [2, 2, 5, 2, 1, c + 1] := by rintro rfl; exact hL.no (i := 1) (c := c + 1) (by omega) _ hi (und _ [2, 2, 5, 2])
        rw [h2 i e]
        simp [e]
      simp [h3, h4]
      repeat' first
        | (refine PW.seq ?_)
        | (refine PW.rg (Mofq [7, 10] [12]) mixed (by kernel_rfl) ?_; simp [pEqNil, h17, h16, h15, h3, h4])
        | (refine PW.skip ?_; simp)
        | (refine PW.ret ?_; simp [pEqNil, h17, h16, h15, h3, h4]; done)
        | (refine PW.ret ?_; simp [pEqNil, h17, h16, h15, h3, h4])
        | (refine PW.exit ?_; simp)
        | (refine PW.condV ?_; simp [pEqNil, h17, h16, h15, h3, h4])
        | (refine PW.block ?_)
        | (refine And.intro ?_ ?_)
        | (with_reducible intro _)
      refine CallQ.of (a12 q2 _) ?_; simp [h17, h16, h15, h3, h4, hpl, -pLen]
      repeat' first
        | (refine PW.seq ?_)
        | (refine PW.rg (Mofq [7, 10] [12]) mixed (by kernel_rfl) ?_; simp [pEqNil, h17, h16, h15, h3, h4, hpl, -pLen])
        | (refine PW.skip ?_; simp)
        | (refine PW.ret ?_; simp [pEqNil, h17, h16, h15, h3, h4, hpl, -pLen]; done)
        | (refine PW.ret ?_; simp [pEqNil, h17, h16, h15, h3, h4, hpl, -pLen])
        | (refine PW.exit ?_; simp)
        | (refine PW.condV ?_; simp [pEqNil, h17, h16, h15, h3, h4, hpl, -pLen])
        | (refine PW.block ?_)
        | (refine And.intro ?_ ?_)
        | (with_reducible intro _)
end QT
end

section
set_option linter.unusedSimpArgs false
set_option linter.unusedVariables false
set_option linter.constructorNameAsVariable false
/- QueueDrains' contract. Printed in part by a program. -/
open Go hiding Id
open Go.Proofs Go.PM
set_option linter.unusedSimpArgs false
set_option linter.unusedVariables false
namespace QT
attribute [local irreducible] PW FL FR FS FB FM FG CallF CallS CallQ PC PCS bindK condK

theorem push_len {l : List It} (x : It) : (pushR l x = 0 ∧ (pushL l x).length = l.length + 1) ∨ (pushR l x ≠ 0 ∧ pushL l x = l) := by
  unfold pushR pushL
  by_cases h1 : x.1 ∈ l.map (·.1)
  · simp [h1]
  · by_cases h2 : 4096 ≤ l.length
    · simp [h1, h2]
    · rw [if_neg h1, if_neg h2, if_neg h1, if_neg h2, withL_len]; simp
theorem rm_len {l : List It} (hn : (l.map (·.1)).Nodup) (k : Int) : (fixR l k = 0 ∧ (rmI l k).length + 1 = l.length) ∨ (fixR l k ≠ 0 ∧ rmI l k = l) := by
  unfold fixR rmI
  by_cases h1 : k ∈ l.map (·.1)
  · rw [if_pos h1, if_pos h1]
    obtain ⟨i, hi, rfl⟩ := key_at h1
    have := (outK_one hn (erase_perm (l := l) (a := i) (List.getElem?_eq_getElem hi)).symm).length_eq
    rw [this, List.length_eraseIdx, if_pos hi]
    exact .inl ⟨rfl, by omega⟩
  · simp [h1]

theorem c4 (ops : List Op3) : PC Try.prog 4 [.sl (ops.map encO)] (.v (.bool true)) := by
  refine PC.of' Try.func4 rfl (by simp) ?_
  by_cases hb : 3000 < ops.length
  · have hb' : (3000 : Int) < (ops.length : Int) := by omega
    repeat' first
      | (refine PW.seq ?_)
      | (refine PW.rg (Mofq [7, 10] [12, 15]) mixed (by kernel_rfl) ?_; simp [pEqNil, hb'])
      | (refine PW.skip ?_; simp)
      | (refine PW.ret ?_; simp [pEqNil, hb']; done)
      | (refine PW.ret ?_; simp [pEqNil, hb'])
      | (refine PW.exit ?_; simp)
      | (refine PW.condV ?_; simp [pEqNil, hb'])
      | (refine PW.block ?_)
      | (refine And.intro ?_ ?_)
      | (with_reducible intro _)
    refine CallF.flat c7 (by simp) ?_; simp
    repeat' first
      | (refine PW.seq ?_)
      | (refine PW.rg (Mofq [7, 10] [12, 15]) mixed (by kernel_rfl) ?_; simp [pEqNil, hb'])
      | (refine PW.skip ?_; simp)
      | (refine PW.ret ?_; simp [pEqNil, hb']; done)
      | (refine PW.ret ?_; simp [pEqNil, hb'])
      | (refine PW.exit ?_; simp)
      | (refine PW.condV ?_; simp [pEqNil, hb'])
      | (refine PW.block ?_)
      | (refine And.intro ?_ ?_)
      | (with_reducible intro _)
  have hb' : ¬ (3000 : Int) < (ops.length : Int) := by omega
  repeat' first
    | (refine PW.seq ?_)
    | (refine PW.rg (Mofq [7, 10] [12, 15]) mixed (by kernel_rfl) ?_; simp [pEqNil, hb'])
    | (refine PW.skip ?_; simp)
    | (refine PW.ret ?_; simp [pEqNil, hb']; done)
    | (refine PW.ret ?_; simp [pEqNil, hb'])
    | (refine PW.exit ?_; simp)
    | (refine PW.condV ?_; simp [pEqNil, hb'])
    | (refine PW.block ?_)
    | (refine And.intro ?_ ?_)
    | (with_reducible intro _)
  refine CallF.flat c7 (by simp) ?_; simp
  repeat' first
    | (refine PW.seq ?_)
    | (refine PW.rg (Mofq [7, 10] [12, 15]) mixed (by kernel_rfl) ?_; simp [pEqNil, hb'])
    | (refine PW.skip ?_; simp)
    | (refine PW.ret ?_; simp [pEqNil, hb']; done)
    | (refine PW.ret ?_; simp [pEqNil, hb'])
    | (refine PW.exit ?_; simp)
    | (refine PW.condV ?_; simp [pEqNil, hb'])
    | (refine PW.block ?_)
    | (refine And.intro ?_ ?_)
    | (with_reducible intro _)
  refine CallS.of (a8 _) ?_; rintro _ σ1 ⟨rfl, F1, q1, s1⟩; simp
  have l1 := (Lies.none []).step s1
  repeat' first
    | (refine PW.seq ?_)
    | (refine PW.rg (Mofq [7, 10] [12, 15]) mixed (by kernel_rfl) ?_; simp [pEqNil, hb'])
    | (refine PW.skip ?_; simp)
    | (refine PW.ret ?_; simp [pEqNil, hb']; done)
    | (refine PW.ret ?_; simp [pEqNil, hb'])
    | (refine PW.exit ?_; simp)
    | (refine PW.condV ?_; simp [pEqNil, hb'])
    | (refine PW.block ?_)
    | (refine And.intro ?_ ?_)
    | (with_reducible intro _)
  refine PW.loop (fun n s => ∃ (j : Nat) (l : List It) (F : PM.Id → Prop), n = ops.length - j ∧ j ≤ ops.length ∧ s.t 24 = .v (.int .i64 j) ∧ s.t 23 = .v (.int .i64 ops.length) ∧ s.t 22 = .sl (ops.map encO) ∧ s.t 3 = .ptr [3, 1, 0, 3] 0 0 ∧ s.t 4 = .v (.int .i64 l.length) ∧ QA s.σ [3, 1, 0, 3] F l ∧ Lies [] (fun _ c' => c' < s.c) F) ops.length ?_ ?_
  · exact ⟨0, [], F1, rfl, by omega, by simp, by simp, by simp, by simp, by simp, q1, l1.mono fun i c h => by simp at h ⊢; omega⟩
  rintro n ⟨t, σ, c⟩ ⟨j, l, F, rfl, hj, h24, h23, h22, h3, h4, hq, hL⟩
  simp only at h24 h23 h22 h3 h4 hq hL
  by_cases hjl : j < ops.length
  · have go : (ops.map encO)[j]? = some (encO ops[j]) := by simp [hjl]
    have hji : (j : Int) < (ops.length : Int) := by omega
    have hw : IntKind.i64.wrap ((j : Int) + 1) = ((j + 1 : Nat) : Int) := by rw [wrap64 (by omega) (by omega)]; omega
    have hlen := hq.len
    repeat' first
      | (refine PW.seq ?_)
      | (refine PW.rg (Mofq [7, 10] [12, 15]) mixed (by kernel_rfl) ?_; simp [pEqNil, h24, h23, h22, h3, h4, go, hjl, hji, hw, encO])
      | (refine PW.skip ?_; simp)
      | (refine PW.ret ?_; simp [pEqNil, h24, h23, h22, h3, h4, go, hjl, hji, hw, encO]; done)
      | (refine PW.ret ?_; simp [pEqNil, h24, h23, h22, h3, h4, go, hjl, hji, hw, encO])
      | (refine PW.exit ?_; simp)
      | (refine PW.condV ?_; simp [pEqNil, h24, h23, h22, h3, h4, go, hjl, hji, hw, encO])
      | (refine PW.block ?_)
      | (refine And.intro ?_ ?_)
      | (with_reducible intro _)
    refine CallS.of (a13 ((hq.put (hL.at (by omega))).put (hL.at (by omega))) _ (hL.no (by omega)) ops[j].2) ?_; rintro _ σ2 ⟨rfl, F2, q2, s2⟩
    have hL2 := hL.step s2
    have hW : σ2 [2, c + 1] = some (.cells [encO ops[j]] true) := by
      rw [s2.s _ (hL.at (by omega)) (by intro h; have := suffix_eq h (List.suffix_refl _) (by simp); simp at this)]
      simp [encO]
    have fin : ∀ (l2 : List It) (F3 : PM.Id → Prop) (σ3 : Sto) (P : Nat → Nat → Prop) (cc : Nat), QA σ3 [3, 1, 0, 3] F3 l2 → Lies [] P F3 → (∀ i c', P i c' → c' < cc) →
        ∃ m, m < ops.length - j ∧ ∃ j1, m = ops.length - j1 ∧ j1 ≤ ops.length ∧ (j : Int) + 1 = (j1 : Nat) ∧ ∃ x, (l2.length : Int) = (x : List It).length ∧ ∃ x1, QA σ3 [3, 1, 0, 3] x1 x ∧ Lies [] (fun _ c' => c' < cc) x1 :=
      fun l2 F3 σ3 P cc h1 h2 h3 => ⟨ops.length - (j + 1), by omega, j + 1, rfl, by omega, by omega, l2, rfl, F3, h1, h2.mono h3⟩
    generalize hl2 : pushL l ops[j].2 = l2 at q2
    have q2n := q2.nodup
    have q2l := q2.len
    have hlw : ∀ {a b : Nat}, a = b → ((a : Int)) = (b : Int) := fun h => by rw [h]
    rcases push_len (l := l) ops[j].2 with ⟨e1, e2⟩ | ⟨e1, e2⟩
    · rw [hl2] at e2
      have hw1 : IntKind.i64.wrap ((l.length : Int) + 1) = (l2.length : Int) := by rw [wrap64 (by omega) (by omega)]; omega
      simp [e1, h24, h23, h22, h3, h4, hW, encO]
      repeat' first
        | (refine PW.seq ?_)
        | (refine PW.rg (Mofq [7, 10] [12, 15]) mixed (by kernel_rfl) ?_; simp [pEqNil, h24, h23, h22, h3, h4, go, hjl, hji, hw, encO, hw1, hW])
        | (refine PW.skip ?_; simp)
        | (refine PW.ret ?_; simp [pEqNil, h24, h23, h22, h3, h4, go, hjl, hji, hw, encO, hw1, hW]; done)
        | (refine PW.ret ?_; simp [pEqNil, h24, h23, h22, h3, h4, go, hjl, hji, hw, encO, hw1, hW])
        | (refine PW.exit ?_; simp)
        | (refine PW.condV ?_; simp [pEqNil, h24, h23, h22, h3, h4, go, hjl, hji, hw, encO, hw1, hW])
        | (refine PW.block ?_)
        | (refine And.intro ?_ ?_)
        | (with_reducible intro _)
      by_cases hk : ops[j].1 = 4
      · try simp [hk, hW, h24, h23, h22, h3, h4, go, hjl, hji, hw, encO]
        repeat' first
          | (refine PW.seq ?_)
          | (refine PW.rg (Mofq [7, 10] [12, 15]) mixed (by kernel_rfl) ?_; simp [pEqNil, h24, h23, h22, h3, h4, go, hjl, hji, hw, encO, hw1, hW, hk])
          | (refine PW.skip ?_; simp)
          | (refine PW.ret ?_; simp [pEqNil, h24, h23, h22, h3, h4, go, hjl, hji, hw, encO, hw1, hW, hk]; done)
          | (refine PW.ret ?_; simp [pEqNil, h24, h23, h22, h3, h4, go, hjl, hji, hw, encO, hw1, hW, hk])
          | (refine PW.exit ?_; simp)
          | (refine PW.condV ?_; simp [pEqNil, h24, h23, h22, h3, h4, go, hjl, hji, hw, encO, hw1, hW, hk])
          | (refine PW.block ?_)
          | (refine And.intro ?_ ?_)
          | (with_reducible intro _)
        refine CallS.of (a14 q2 _ ops[j].2.1) ?_; rintro _ σ3 ⟨rfl, F3, q3, s3⟩
        have hL3 := hL2.step s3
        rcases rm_len q2n ops[j].2.1 with ⟨g1, g2⟩ | ⟨g1, g2⟩
        · have hw2 : IntKind.i64.wrap ((l2.length : Int) - 1) = ((rmI l2 ops[j].2.1).length : Int) := by rw [wrap64 (by omega) (by omega)]; omega
          try simp [g1, hk, h24, h23, h22, h3, h4, hW, encO]
          repeat' first
            | (refine PW.seq ?_)
            | (refine PW.rg (Mofq [7, 10] [12, 15]) mixed (by kernel_rfl) ?_; simp [pEqNil, h24, h23, h22, h3, h4, go, hjl, hji, hw, encO, hw1, hW, hk, hw2])
            | (refine PW.skip ?_; simp)
            | (refine PW.ret ?_; simp [pEqNil, h24, h23, h22, h3, h4, go, hjl, hji, hw, encO, hw1, hW, hk, hw2]; done)
            | (refine PW.ret ?_; simp [pEqNil, h24, h23, h22, h3, h4, go, hjl, hji, hw, encO, hw1, hW, hk, hw2])
            | (refine PW.exit ?_; simp)
            | (refine PW.condV ?_; simp [pEqNil, h24, h23, h22, h3, h4, go, hjl, hji, hw, encO, hw1, hW, hk, hw2])
            | (refine PW.block ?_)
            | (refine And.intro ?_ ?_)
            | (with_reducible intro _)
          exact fin _ _ _ _ _ q3 hL3 (fun i c' h => by omega)
        · rw [g2] at q3
          try simp [g1, hk, h24, h23, h22, h3, h4, hW, encO]
          repeat' first
            | (refine PW.seq ?_)
            | (refine PW.rg (Mofq [7, 10] [12, 15]) mixed (by kernel_rfl) ?_; simp [pEqNil, h24, h23, h22, h3, h4, go, hjl, hji, hw, encO, hw1, hW, hk])
            | (refine PW.skip ?_; simp)
            | (refine PW.ret ?_; simp [pEqNil, h24, h23, h22, h3, h4, go, hjl, hji, hw, encO, hw1, hW, hk]; done)
            | (refine PW.ret ?_; simp [pEqNil, h24, h23, h22, h3, h4, go, hjl, hji, hw, encO, hw1, hW, hk])
            | (refine PW.exit ?_; simp)
            | (refine PW.condV ?_; simp [pEqNil, h24, h23, h22, h3, h4, go, hjl, hji, hw, encO, hw1, hW, hk])
            | (refine PW.block ?_)
            | (refine And.intro ?_ ?_)
            | (with_reducible intro _)
          exact fin _ _ _ _ _ q3 hL3 (fun i c' h => by omega)
      · try simp [hk, hW, h24, h23, h22, h3, h4, go, hjl, hji, hw, encO]
        repeat' first
          | (refine PW.seq ?_)
          | (refine PW.rg (Mofq [7, 10] [12, 15]) mixed (by kernel_rfl) ?_; simp [pEqNil, h24, h23, h22, h3, h4, go, hjl, hji, hw, encO, hw1, hW, hk])
          | (refine PW.skip ?_; simp)
          | (refine PW.ret ?_; simp [pEqNil, h24, h23, h22, h3, h4, go, hjl, hji, hw, encO, hw1, hW, hk]; done)
          | (refine PW.ret ?_; simp [pEqNil, h24, h23, h22, h3, h4, go, hjl, hji, hw, encO, hw1, hW, hk])
          | (refine PW.exit ?_; simp)
          | (refine PW.condV ?_; simp [pEqNil, h24, h23, h22, h3, h4, go, hjl, hji, hw, encO, hw1, hW, hk])
          | (refine PW.block ?_)
          | (refine And.intro ?_ ?_)
          | (with_reducible intro _)
        exact fin _ _ _ _ _ q2 hL2 (fun i c' h => by omega)
    · rw [hl2] at e2
      subst e2
      simp [e1, h24, h23, h22, h3, h4, hW, encO]
      repeat' first
        | (refine PW.seq ?_)
        | (refine PW.rg (Mofq [7, 10] [12, 15]) mixed (by kernel_rfl) ?_; simp [pEqNil, h24, h23, h22, h3, h4, go, hjl, hji, hw, encO, hW, h4'])
        | (refine PW.skip ?_; simp)
        | (refine PW.ret ?_; simp [pEqNil, h24, h23, h22, h3, h4, go, hjl, hji, hw, encO, hW, h4']; done)
        | (refine PW.ret ?_; simp [pEqNil, h24, h23, h22, h3, h4, go, hjl, hji, hw, encO, hW, h4'])
        | (refine PW.exit ?_; simp)
        | (refine PW.condV ?_; simp [pEqNil, h24, h23, h22, h3, h4, go, hjl, hji, hw, encO, hW, h4'])
        | (refine PW.block ?_)
        | (refine And.intro ?_ ?_)
        | (with_reducible intro _)
      by_cases hk : ops[j].1 = 4
      · try simp [hk, hW, h24, h23, h22, h3, h4, go, hjl, hji, hw, encO]
        repeat' first
          | (refine PW.seq ?_)
          | (refine PW.rg (Mofq [7, 10] [12, 15]) mixed (by kernel_rfl) ?_; simp [pEqNil, h24, h23, h22, h3, h4, go, hjl, hji, hw, encO, hW, hk])
          | (refine PW.skip ?_; simp)
          | (refine PW.ret ?_; simp [pEqNil, h24, h23, h22, h3, h4, go, hjl, hji, hw, encO, hW, hk]; done)
          | (refine PW.ret ?_; simp [pEqNil, h24, h23, h22, h3, h4, go, hjl, hji, hw, encO, hW, hk])
          | (refine PW.exit ?_; simp)
          | (refine PW.condV ?_; simp [pEqNil, h24, h23, h22, h3, h4, go, hjl, hji, hw, encO, hW, hk])
          | (refine PW.block ?_)
          | (refine And.intro ?_ ?_)
          | (with_reducible intro _)
        refine CallS.of (a14 q2 _ ops[j].2.1) ?_; rintro _ σ3 ⟨rfl, F3, q3, s3⟩
        have hL3 := hL2.step s3
        rcases rm_len q2n ops[j].2.1 with ⟨g1, g2⟩ | ⟨g1, g2⟩
        · have hw2 : IntKind.i64.wrap ((l2.length : Int) - 1) = ((rmI l2 ops[j].2.1).length : Int) := by rw [wrap64 (by omega) (by omega)]; omega
          try simp [g1, hk, h24, h23, h22, h3, h4, hW, encO]
          repeat' first
            | (refine PW.seq ?_)
            | (refine PW.rg (Mofq [7, 10] [12, 15]) mixed (by kernel_rfl) ?_; simp [pEqNil, h24, h23, h22, h3, h4, go, hjl, hji, hw, encO, hW, hk, hw2])
            | (refine PW.skip ?_; simp)
            | (refine PW.ret ?_; simp [pEqNil, h24, h23, h22, h3, h4, go, hjl, hji, hw, encO, hW, hk, hw2]; done)
            | (refine PW.ret ?_; simp [pEqNil, h24, h23, h22, h3, h4, go, hjl, hji, hw, encO, hW, hk, hw2])
            | (refine PW.exit ?_; simp)
            | (refine PW.condV ?_; simp [pEqNil, h24, h23, h22, h3, h4, go, hjl, hji, hw, encO, hW, hk, hw2])
            | (refine PW.block ?_)
            | (refine And.intro ?_ ?_)
            | (with_reducible intro _)
          exact fin _ _ _ _ _ q3 hL3 (fun i c' h => by omega)
        · rw [g2] at q3
          try simp [g1, hk, h24, h23, h22, h3, h4, hW, encO]
          repeat' first
            | (refine PW.seq ?_)
            | (refine PW.rg (Mofq [7, 10] [12, 15]) mixed (by kernel_rfl) ?_; simp [pEqNil, h24, h23, h22, h3, h4, go, hjl, hji, hw, encO, hW, hk])
            | (refine PW.skip ?_; simp)
            | (refine PW.ret ?_; simp [pEqNil, h24, h23, h22, h3, h4, go, hjl, hji, hw, encO, hW, hk]; done)
            | (refine PW.ret ?_; simp [pEqNil, h24, h23, h22, h3, h4, go, hjl, hji, hw, encO, hW, hk])
            | (refine PW.exit ?_; simp)
            | (refine PW.condV ?_; simp [pEqNil, h24, h23, h22, h3, h4, go, hjl, hji, hw, encO, hW, hk])
            | (refine PW.block ?_)
            | (refine And.intro ?_ ?_)
            | (with_reducible intro _)
          exact fin _ _ _ _ _ q3 hL3 (fun i c' h => by omega)
      · try simp [hk, hW, h24, h23, h22, h3, h4, go, hjl, hji, hw, encO]
        repeat' first
          | (refine PW.seq ?_)
          | (refine PW.rg (Mofq [7, 10] [12, 15]) mixed (by kernel_rfl) ?_; simp [pEqNil, h24, h23, h22, h3, h4, go, hjl, hji, hw, encO, hW, hk])
          | (refine PW.skip ?_; simp)
          | (refine PW.ret ?_; simp [pEqNil, h24, h23, h22, h3, h4, go, hjl, hji, hw, encO, hW, hk]; done)
          | (refine PW.ret ?_; simp [pEqNil, h24, h23, h22, h3, h4, go, hjl, hji, hw, encO, hW, hk])
          | (refine PW.exit ?_; simp)
          | (refine PW.condV ?_; simp [pEqNil, h24, h23, h22, h3, h4, go, hjl, hji, hw, encO, hW, hk])
          | (refine PW.block ?_)
          | (refine And.intro ?_ ?_)
          | (with_reducible intro _)
        exact fin _ _ _ _ _ q2 hL2 (fun i c' h => by omega)
  · have hji : ¬ (j : Int) < (ops.length : Int) := by omega
    repeat' first
      | (refine PW.seq ?_)
      | (refine PW.rg (Mofq [7, 10] [12, 15]) mixed (by kernel_rfl) ?_; simp [pEqNil, h24, h23, h22, h3, h4, hji])
      | (refine PW.skip ?_; simp)
      | (refine PW.ret ?_; simp [pEqNil, h24, h23, h22, h3, h4, hji]; done)
      | (refine PW.ret ?_; simp [pEqNil, h24, h23, h22, h3, h4, hji])
      | (refine PW.exit ?_; simp)
      | (refine PW.condV ?_; simp [pEqNil, h24, h23, h22, h3, h4, hji])
      | (refine PW.block ?_)
      | (refine And.intro ?_ ?_)
      | (with_reducible intro _)
    have hlen := hq.len
    have hnd := hq.nodup
    have hso := hq.sorted
    refine CallS.of (a11 hq _) ?_; rintro _ _ (⟨rfl, rfl, rfl⟩ | ⟨rfl, rfl⟩)
    · simp [h24, h23, h22, h3, h4, hji]
      repeat' first
        | (refine PW.seq ?_)
        | (refine PW.rg (Mofq [7, 10] [12, 15]) mixed (by kernel_rfl) ?_; simp [pEqNil, h24, h23, h22, h3, h4, hji])
        | (refine PW.skip ?_; simp)
        | (refine PW.ret ?_; simp [pEqNil, h24, h23, h22, h3, h4, hji]; done)
        | (refine PW.ret ?_; simp [pEqNil, h24, h23, h22, h3, h4, hji])
        | (refine PW.exit ?_; simp)
        | (refine PW.condV ?_; simp [pEqNil, h24, h23, h22, h3, h4, hji])
        | (refine PW.block ?_)
        | (refine And.intro ?_ ?_)
        | (with_reducible intro _)
      refine CallQ.of (a12 hq _) ?_; simp [h24, h23, h22, h3, h4, hji]
      repeat' first
        | (refine PW.seq ?_)
        | (refine PW.rg (Mofq [7, 10] [12, 15]) mixed (by kernel_rfl) ?_; simp [pEqNil, h24, h23, h22, h3, h4, hji])
        | (refine PW.skip ?_; simp)
        | (refine PW.ret ?_; simp [pEqNil, h24, h23, h22, h3, h4, hji]; done)
        | (refine PW.ret ?_; simp [pEqNil, h24, h23, h22, h3, h4, hji])
        | (refine PW.exit ?_; simp)
        | (refine PW.condV ?_; simp [pEqNil, h24, h23, h22, h3, h4, hji])
        | (refine PW.block ?_)
        | (refine And.intro ?_ ?_)
        | (with_reducible intro _)
      refine PW.loop (fun n s => s.t 64 = .v (.int .i64 0) ∧ s.t 63 = .v (.int .i64 0) ∧ s.t 3 = .ptr [3, 1, 0, 3] 0 0 ∧ QA s.σ [3, 1, 0, 3] F [] ∧ Lies [] (fun i c' => c' < s.c) F) 0 ?_ ?_
      · exact ⟨by simp, by simp, by simp [h3], hq, hL.mono fun i c' h => by simp; omega⟩
      rintro m ⟨t', σ', c'⟩ ⟨k1, k2, k3, qq, hL'⟩
      simp only at k1 k2 k3 qq hL'
      repeat' first
        | (refine PW.seq ?_)
        | (refine PW.rg (Mofq [7, 10] [12, 15]) mixed (by kernel_rfl) ?_; simp [pEqNil, k1, k2, k3])
        | (refine PW.skip ?_; simp)
        | (refine PW.ret ?_; simp [pEqNil, k1, k2, k3]; done)
        | (refine PW.ret ?_; simp [pEqNil, k1, k2, k3])
        | (refine PW.exit ?_; simp)
        | (refine PW.condV ?_; simp [pEqNil, k1, k2, k3])
        | (refine PW.block ?_)
        | (refine And.intro ?_ ?_)
        | (with_reducible intro _)
      refine CallS.of (a16_nil qq _) ?_; rintro _ _ ⟨rfl, rfl⟩; simp [k1, k2, k3, encI]
      repeat' first
        | (refine PW.seq ?_)
        | (refine PW.rg (Mofq [7, 10] [12, 15]) mixed (by kernel_rfl) ?_; simp [pEqNil, k1, k2, k3, encI])
        | (refine PW.skip ?_; simp)
        | (refine PW.ret ?_; simp [pEqNil, k1, k2, k3, encI]; done)
        | (refine PW.ret ?_; simp [pEqNil, k1, k2, k3, encI])
        | (refine PW.exit ?_; simp)
        | (refine PW.condV ?_; simp [pEqNil, k1, k2, k3, encI])
        | (refine PW.block ?_)
        | (refine And.intro ?_ ?_)
        | (with_reducible intro _)
      refine CallS.of (a17_nil ((qq.put (hL'.at (by omega))).put (hL'.at (by omega))) _) ?_; rintro _ _ ⟨rfl, rfl⟩; simp [k1, k2, k3, encI]
      repeat' first
        | (refine PW.seq ?_)
        | (refine PW.rg (Mofq [7, 10] [12, 15]) mixed (by kernel_rfl) ?_; simp [pEqNil, k1, k2, k3, encI])
        | (refine PW.skip ?_; simp)
        | (refine PW.ret ?_; simp [pEqNil, k1, k2, k3, encI]; done)
        | (refine PW.ret ?_; simp [pEqNil, k1, k2, k3, encI])
        | (refine PW.exit ?_; simp)
        | (refine PW.condV ?_; simp [pEqNil, k1, k2, k3, encI])
        | (refine PW.block ?_)
        | (refine And.intro ?_ ?_)
        | (with_reducible intro _)
      refine CallQ.of (a12 (((qq.put (hL'.at (by omega))).put (hL'.at (by omega))).put (hL'.at (by omega)) |>.put (hL'.at (by omega))) _) ?_; simp [k1, k2, k3]
      repeat' first
        | (refine PW.seq ?_)
        | (refine PW.rg (Mofq [7, 10] [12, 15]) mixed (by kernel_rfl) ?_; simp [pEqNil, k1, k2, k3])
        | (refine PW.skip ?_; simp)
        | (refine PW.ret ?_; simp [pEqNil, k1, k2, k3]; done)
        | (refine PW.ret ?_; simp [pEqNil, k1, k2, k3])
        | (refine PW.exit ?_; simp)
        | (refine PW.condV ?_; simp [pEqNil, k1, k2, k3])
        | (refine PW.block ?_)
        | (refine And.intro ?_ ?_)
        | (with_reducible intro _)
      skip
    · simp [h24, h23, h22, h3, h4, hji]
      repeat' first
        | (refine PW.seq ?_)
        | (refine PW.rg (Mofq [7, 10] [12, 15]) mixed (by kernel_rfl) ?_; simp [pEqNil, h24, h23, h22, h3, h4, hji])
        | (refine PW.skip ?_; simp)
        | (refine PW.ret ?_; simp [pEqNil, h24, h23, h22, h3, h4, hji]; done)
        | (refine PW.ret ?_; simp [pEqNil, h24, h23, h22, h3, h4, hji])
        | (refine PW.exit ?_; simp)
        | (refine PW.condV ?_; simp [pEqNil, h24, h23, h22, h3, h4, hji])
        | (refine PW.block ?_)
        | (refine And.intro ?_ ?_)
        | (with_reducible intro _)
      have nA : ¬ F [2, 2, 5, 2, 1, c + 1] := fun hf => hL.no (i := 1) (c := c + 1) (by omega) _ hf (und _ [2, 2, 5, 2])
      refine CallQ.of (a12 (hq.put nA) _) ?_; simp [h24, h23, h22, h3, h4, hji]
      repeat' first
        | (refine PW.seq ?_)
        | (refine PW.rg (Mofq [7, 10] [12, 15]) mixed (by kernel_rfl) ?_; simp [pEqNil, h24, h23, h22, h3, h4, hji])
        | (refine PW.skip ?_; simp)
        | (refine PW.ret ?_; simp [pEqNil, h24, h23, h22, h3, h4, hji]; done)
        | (refine PW.ret ?_; simp [pEqNil, h24, h23, h22, h3, h4, hji])
        | (refine PW.exit ?_; simp)
        | (refine PW.condV ?_; simp [pEqNil, h24, h23, h22, h3, h4, hji])
        | (refine PW.block ?_)
        | (refine And.intro ?_ ?_)
        | (with_reducible intro _)
      refine PW.loop (fun n s => ∃ (i : Nat) (G : PM.Id → Prop), n = l.length - i ∧ i ≤ l.length ∧ s.t 64 = .v (.int .i64 i) ∧ s.t 63 = .v (.int .i64 l.length) ∧ s.t 62 = .own [2, 2, 5, 2, 1, c + 1] 40 0 l.length ∧ s.t 7 = .own [2, 2, 5, 2, 1, c + 1] 40 0 l.length ∧ s.t 3 = .ptr [3, 1, 0, 3] 0 0 ∧
        s.σ [2, 2, 5, 2, 1, c + 1] = some (.cells (l.map encI) true) ∧ QA s.σ [3, 1, 0, 3] G (l.drop i) ∧ Lies [] (fun i c' => ¬ (i = 1 ∧ c' = c + 1) ∧ c' < s.c) G ∧ c + 1 < s.c) l.length ?_ ?_
      · refine ⟨0, F, rfl, by omega, by simp, by simp, by simp, by simp, by simp [h3], by simp, ?_, hL.mono fun i c' h => by simp at h ⊢; omega, by simp⟩
        rw [List.drop_zero]
        exact hq.put nA
      rintro m ⟨t', σ', c'⟩ ⟨i, G, rfl, hi, k1, k2, k3, k4, k5, sA, qq, hL', hcc⟩
      simp only at k1 k2 k3 k4 k5 sA qq hL' hcc
      by_cases hil : i < l.length
      · have hii : (i : Int) < (l.length : Int) := by omega
        have hw5 : IntKind.i64.wrap ((i : Int) + 1) = ((i + 1 : Nat) : Int) := by rw [wrap64 (by omega) (by omega)]; omega
        obtain ⟨x, hx⟩ : ∃ x, l[i] = x := ⟨_, rfl⟩
        have gi : (l.map encI)[i]? = some (encI l[i]) := by simp [hil]
        have hdr : l.drop i = l[i] :: l.drop (i + 1) := List.drop_eq_getElem_cons hil
        rw [hdr] at qq
        have n9 : ¬ G [3, c' + 1] := hL'.at (by omega)
        have nA' : ¬ G [2, 2, 5, 2, 1, c + 1] := fun hf => hL'.no (i := 1) (c := c + 1) (by omega) _ hf (und _ [2, 2, 5, 2])
        have has1 : hasL (l[i] :: l.drop (i + 1)) l[i].1 = true := by unfold hasL; exact decide_eq_true (by rw [List.map_cons]; exact List.mem_cons_self ..)
        have has1b : hasL (l.drop i) l[i].1 = true := by rw [hdr]; exact has1
        have has2 : hasL (l.drop (i + 1)) l[i].1 = false := by
          have h1 := hnd
          rw [← List.take_append_drop i l, hdr, List.map_append, List.map_cons] at h1
          have h2 := (List.nodup_cons.1 (List.nodup_append.1 h1).2.1).1
          simpa [hasL] using h2
        clear hx
        by_cases hi0 : i = 0
        · have hi1 : ¬ (0 < i) := by omega
          repeat' first
            | (refine PW.seq ?_)
            | (refine PW.rg (Mofq [7, 10] [12, 15]) mixed (by kernel_rfl) ?_; simp [pEqNil, k1, k2, k3, k4, k5, hil, hii, hw5, sA, gi, hi1])
            | (refine PW.skip ?_; simp)
            | (refine PW.ret ?_; simp [pEqNil, k1, k2, k3, k4, k5, hil, hii, hw5, sA, gi, hi1]; done)
            | (refine PW.ret ?_; simp [pEqNil, k1, k2, k3, k4, k5, hil, hii, hw5, sA, gi, hi1])
            | (refine PW.exit ?_; simp)
            | (refine PW.condV ?_; simp [pEqNil, k1, k2, k3, k4, k5, hil, hii, hw5, sA, gi, hi1])
            | (refine PW.block ?_)
            | (refine And.intro ?_ ?_)
            | (with_reducible intro _)
          refine CallQ.of (a15 ((qq.put n9).put n9) _ l[i].1) ?_; simp [k1, k2, k3, k4, k5, hil, hii, hw5, sA, gi, hi1, encI, has1, has1b]
          repeat' first
            | (refine PW.seq ?_)
            | (refine PW.rg (Mofq [7, 10] [12, 15]) mixed (by kernel_rfl) ?_; simp [pEqNil, k1, k2, k3, k4, k5, hil, hii, hw5, sA, gi, hi1, encI, has1])
            | (refine PW.skip ?_; simp)
            | (refine PW.ret ?_; simp [pEqNil, k1, k2, k3, k4, k5, hil, hii, hw5, sA, gi, hi1, encI, has1]; done)
            | (refine PW.ret ?_; simp [pEqNil, k1, k2, k3, k4, k5, hil, hii, hw5, sA, gi, hi1, encI, has1])
            | (refine PW.exit ?_; simp)
            | (refine PW.condV ?_; simp [pEqNil, k1, k2, k3, k4, k5, hil, hii, hw5, sA, gi, hi1, encI, has1])
            | (refine PW.block ?_)
            | (refine And.intro ?_ ?_)
            | (with_reducible intro _)
          refine CallS.of (a16 ((qq.put n9).put n9) _) ?_; rintro _ σ7 ⟨rfl, G7, q7, s7⟩
          have hL7 := hL'.step s7
          have w7 : σ7 [3, c' + 1] = some (.cells [encI l[i]] true) := by
            rw [s7.s _ n9 (nsuf (by simp))]
            simp [encI]
          have a7 : σ7 [2, 2, 5, 2, 1, c + 1] = some (.cells (l.map encI) true) := by
            have hne : (([2, 2, 5, 2, 1, c + 1] : PM.Id) = [3, c' + 1]) = False := by simp
            rw [s7.s _ nA' (fun hs => by
              have := suffix_eq hs (und [1, c + 1] [2, 2, 5, 2]) (by simp)
              simp at this
              omega)]
            simpa [hne] using sA
          simp [k1, k2, k3, k4, k5, hil, hii, hw5, sA, gi, hi1, encI, w7]
          repeat' first
            | (refine PW.seq ?_)
            | (refine PW.rg (Mofq [7, 10] [12, 15]) mixed (by kernel_rfl) ?_; simp [pEqNil, k1, k2, k3, k4, k5, hil, hii, hw5, sA, gi, hi1, encI, w7, eqP])
            | (refine PW.skip ?_; simp)
            | (refine PW.ret ?_; simp [pEqNil, k1, k2, k3, k4, k5, hil, hii, hw5, sA, gi, hi1, encI, w7, eqP]; done)
            | (refine PW.ret ?_; simp [pEqNil, k1, k2, k3, k4, k5, hil, hii, hw5, sA, gi, hi1, encI, w7, eqP])
            | (refine PW.exit ?_; simp)
            | (refine PW.condV ?_; simp [pEqNil, k1, k2, k3, k4, k5, hil, hii, hw5, sA, gi, hi1, encI, w7, eqP])
            | (refine PW.block ?_)
            | (refine And.intro ?_ ?_)
            | (with_reducible intro _)
          refine CallQ.of (a15 ((q7.put (hL7.at (by omega))).put (hL7.at (by omega))) _ l[i].1) ?_; simp [k1, k2, k3, k4, k5, hil, hii, hw5, sA, gi, hi1, encI, has2]
          repeat' first
            | (refine PW.seq ?_)
            | (refine PW.rg (Mofq [7, 10] [12, 15]) mixed (by kernel_rfl) ?_; simp [pEqNil, k1, k2, k3, k4, k5, hil, hii, hw5, sA, gi, hi1, encI, has2])
            | (refine PW.skip ?_; simp)
            | (refine PW.ret ?_; simp [pEqNil, k1, k2, k3, k4, k5, hil, hii, hw5, sA, gi, hi1, encI, has2]; done)
            | (refine PW.ret ?_; simp [pEqNil, k1, k2, k3, k4, k5, hil, hii, hw5, sA, gi, hi1, encI, has2])
            | (refine PW.exit ?_; simp)
            | (refine PW.condV ?_; simp [pEqNil, k1, k2, k3, k4, k5, hil, hii, hw5, sA, gi, hi1, encI, has2])
            | (refine PW.block ?_)
            | (refine And.intro ?_ ?_)
            | (with_reducible intro _)
          exact ⟨l.length - (i + 1), by omega, i + 1, rfl, by omega, by omega, a7, G7, (q7.put (hL7.at (by omega))).put (hL7.at (by omega)), hL7.mono fun i' c'' h => by omega, by omega⟩
        · have hi1 : 0 < i := by omega
          have hw6 : IntKind.i64.wrap ((i : Int) - 1) = ((i - 1 : Nat) : Int) := by rw [wrap64 (by omega) (by omega)]; omega
          have hip : i - 1 < l.length := by omega
          have gp : (l.map encI)[i - 1]? = some (encI l[i - 1]) := by simp [hip]
          have hle : leI l[i - 1] l[i] := List.pairwise_iff_getElem.1 hso _ _ hip hil (by omega)
          have hne : l[i - 1].1 ≠ l[i].1 := by
            intro e
            have := List.pairwise_iff_getElem.1 (List.nodup_iff_pairwise_ne.1 hnd) (i - 1) i (by simpa using hip) (by simpa using hil) (by omega)
            simp at this
            exact this e
          have hp1 : ¬ l[i].2 < l[i - 1].2 := by unfold leI at hle; omega
          have hip2 : ((i - 1 : Nat) : Int) < (l.length : Int) := by omega
          by_cases hp2 : l[i - 1].2 = l[i].2
          · have hp3 : ¬ l[i].1 ≤ l[i - 1].1 := by unfold leI at hle; omega
            repeat' first
              | (refine PW.seq ?_)
              | (refine PW.rg (Mofq [7, 10] [12, 15]) mixed (by kernel_rfl) ?_; simp [pEqNil, k1, k2, k3, k4, k5, hil, hii, hw5, sA, gi, hi0, hi1, hw6, hip, hip2, gp, hp1, hp2, hp3])
              | (refine PW.skip ?_; simp)
              | (refine PW.ret ?_; simp [pEqNil, k1, k2, k3, k4, k5, hil, hii, hw5, sA, gi, hi0, hi1, hw6, hip, hip2, gp, hp1, hp2, hp3]; done)
              | (refine PW.ret ?_; simp [pEqNil, k1, k2, k3, k4, k5, hil, hii, hw5, sA, gi, hi0, hi1, hw6, hip, hip2, gp, hp1, hp2, hp3])
              | (refine PW.exit ?_; simp)
              | (refine PW.condV ?_; simp [pEqNil, k1, k2, k3, k4, k5, hil, hii, hw5, sA, gi, hi0, hi1, hw6, hip, hip2, gp, hp1, hp2, hp3])
              | (refine PW.block ?_)
              | (refine And.intro ?_ ?_)
              | (with_reducible intro _)
            refine CallQ.of (a15 ((qq.put n9).put n9) _ l[i].1) ?_; simp [k1, k2, k3, k4, k5, hil, hii, hw5, sA, gi, hi0, hi1, hw6, hip, hip2, gp, hp1, hp2, hp3, encI, has1, has1b]
            repeat' first
              | (refine PW.seq ?_)
              | (refine PW.rg (Mofq [7, 10] [12, 15]) mixed (by kernel_rfl) ?_; simp [pEqNil, k1, k2, k3, k4, k5, hil, hii, hw5, sA, gi, hi0, hi1, hw6, hip, hip2, gp, hp1, hp2, hp3, encI, has1])
              | (refine PW.skip ?_; simp)
              | (refine PW.ret ?_; simp [pEqNil, k1, k2, k3, k4, k5, hil, hii, hw5, sA, gi, hi0, hi1, hw6, hip, hip2, gp, hp1, hp2, hp3, encI, has1]; done)
              | (refine PW.ret ?_; simp [pEqNil, k1, k2, k3, k4, k5, hil, hii, hw5, sA, gi, hi0, hi1, hw6, hip, hip2, gp, hp1, hp2, hp3, encI, has1])
              | (refine PW.exit ?_; simp)
              | (refine PW.condV ?_; simp [pEqNil, k1, k2, k3, k4, k5, hil, hii, hw5, sA, gi, hi0, hi1, hw6, hip, hip2, gp, hp1, hp2, hp3, encI, has1])
              | (refine PW.block ?_)
              | (refine And.intro ?_ ?_)
              | (with_reducible intro _)
            refine CallS.of (a16 ((qq.put n9).put n9) _) ?_; rintro _ σ7 ⟨rfl, G7, q7, s7⟩
            have hL7 := hL'.step s7
            have w7 : σ7 [3, c' + 1] = some (.cells [encI l[i]] true) := by
              rw [s7.s _ n9 (nsuf (by simp))]
              simp [encI]
            have a7 : σ7 [2, 2, 5, 2, 1, c + 1] = some (.cells (l.map encI) true) := by
              have hne : (([2, 2, 5, 2, 1, c + 1] : PM.Id) = [3, c' + 1]) = False := by simp
              rw [s7.s _ nA' (fun hs => by
                have := suffix_eq hs (und [1, c + 1] [2, 2, 5, 2]) (by simp)
                simp at this
                omega)]
              simpa [hne] using sA
            simp [k1, k2, k3, k4, k5, hil, hii, hw5, sA, gi, hi0, hi1, hw6, hip, hip2, gp, hp1, hp2, hp3, encI, w7]
            repeat' first
              | (refine PW.seq ?_)
              | (refine PW.rg (Mofq [7, 10] [12, 15]) mixed (by kernel_rfl) ?_; simp [pEqNil, k1, k2, k3, k4, k5, hil, hii, hw5, sA, gi, hi0, hi1, hw6, hip, hip2, gp, hp1, hp2, hp3, encI, w7, eqP])
              | (refine PW.skip ?_; simp)
              | (refine PW.ret ?_; simp [pEqNil, k1, k2, k3, k4, k5, hil, hii, hw5, sA, gi, hi0, hi1, hw6, hip, hip2, gp, hp1, hp2, hp3, encI, w7, eqP]; done)
              | (refine PW.ret ?_; simp [pEqNil, k1, k2, k3, k4, k5, hil, hii, hw5, sA, gi, hi0, hi1, hw6, hip, hip2, gp, hp1, hp2, hp3, encI, w7, eqP])
              | (refine PW.exit ?_; simp)
              | (refine PW.condV ?_; simp [pEqNil, k1, k2, k3, k4, k5, hil, hii, hw5, sA, gi, hi0, hi1, hw6, hip, hip2, gp, hp1, hp2, hp3, encI, w7, eqP])
              | (refine PW.block ?_)
              | (refine And.intro ?_ ?_)
              | (with_reducible intro _)
            refine CallQ.of (a15 ((q7.put (hL7.at (by omega))).put (hL7.at (by omega))) _ l[i].1) ?_; simp [k1, k2, k3, k4, k5, hil, hii, hw5, sA, gi, hi0, hi1, hw6, hip, hip2, gp, hp1, hp2, hp3, encI, has2]
            repeat' first
              | (refine PW.seq ?_)
              | (refine PW.rg (Mofq [7, 10] [12, 15]) mixed (by kernel_rfl) ?_; simp [pEqNil, k1, k2, k3, k4, k5, hil, hii, hw5, sA, gi, hi0, hi1, hw6, hip, hip2, gp, hp1, hp2, hp3, encI, has2])
              | (refine PW.skip ?_; simp)
              | (refine PW.ret ?_; simp [pEqNil, k1, k2, k3, k4, k5, hil, hii, hw5, sA, gi, hi0, hi1, hw6, hip, hip2, gp, hp1, hp2, hp3, encI, has2]; done)
              | (refine PW.ret ?_; simp [pEqNil, k1, k2, k3, k4, k5, hil, hii, hw5, sA, gi, hi0, hi1, hw6, hip, hip2, gp, hp1, hp2, hp3, encI, has2])
              | (refine PW.exit ?_; simp)
              | (refine PW.condV ?_; simp [pEqNil, k1, k2, k3, k4, k5, hil, hii, hw5, sA, gi, hi0, hi1, hw6, hip, hip2, gp, hp1, hp2, hp3, encI, has2])
              | (refine PW.block ?_)
              | (refine And.intro ?_ ?_)
              | (with_reducible intro _)
            exact ⟨l.length - (i + 1), by omega, i + 1, rfl, by omega, by omega, a7, G7, (q7.put (hL7.at (by omega))).put (hL7.at (by omega)), hL7.mono fun i' c'' h => by omega, by omega⟩
          · skip
            repeat' first
              | (refine PW.seq ?_)
              | (refine PW.rg (Mofq [7, 10] [12, 15]) mixed (by kernel_rfl) ?_; simp [pEqNil, k1, k2, k3, k4, k5, hil, hii, hw5, sA, gi, hi0, hi1, hw6, hip, hip2, gp, hp1, hp2])
              | (refine PW.skip ?_; simp)
              | (refine PW.ret ?_; simp [pEqNil, k1, k2, k3, k4, k5, hil, hii, hw5, sA, gi, hi0, hi1, hw6, hip, hip2, gp, hp1, hp2]; done)
              | (refine PW.ret ?_; simp [pEqNil, k1, k2, k3, k4, k5, hil, hii, hw5, sA, gi, hi0, hi1, hw6, hip, hip2, gp, hp1, hp2])
              | (refine PW.exit ?_; simp)
              | (refine PW.condV ?_; simp [pEqNil, k1, k2, k3, k4, k5, hil, hii, hw5, sA, gi, hi0, hi1, hw6, hip, hip2, gp, hp1, hp2])
              | (refine PW.block ?_)
              | (refine And.intro ?_ ?_)
              | (with_reducible intro _)
            refine CallQ.of (a15 ((qq.put n9).put n9) _ l[i].1) ?_; simp [k1, k2, k3, k4, k5, hil, hii, hw5, sA, gi, hi0, hi1, hw6, hip, hip2, gp, hp1, hp2, encI, has1, has1b]
            repeat' first
              | (refine PW.seq ?_)
              | (refine PW.rg (Mofq [7, 10] [12, 15]) mixed (by kernel_rfl) ?_; simp [pEqNil, k1, k2, k3, k4, k5, hil, hii, hw5, sA, gi, hi0, hi1, hw6, hip, hip2, gp, hp1, hp2, encI, has1])
              | (refine PW.skip ?_; simp)
              | (refine PW.ret ?_; simp [pEqNil, k1, k2, k3, k4, k5, hil, hii, hw5, sA, gi, hi0, hi1, hw6, hip, hip2, gp, hp1, hp2, encI, has1]; done)
              | (refine PW.ret ?_; simp [pEqNil, k1, k2, k3, k4, k5, hil, hii, hw5, sA, gi, hi0, hi1, hw6, hip, hip2, gp, hp1, hp2, encI, has1])
              | (refine PW.exit ?_; simp)
              | (refine PW.condV ?_; simp [pEqNil, k1, k2, k3, k4, k5, hil, hii, hw5, sA, gi, hi0, hi1, hw6, hip, hip2, gp, hp1, hp2, encI, has1])
              | (refine PW.block ?_)
              | (refine And.intro ?_ ?_)
              | (with_reducible intro _)
            refine CallS.of (a16 ((qq.put n9).put n9) _) ?_; rintro _ σ7 ⟨rfl, G7, q7, s7⟩
            have hL7 := hL'.step s7
            have w7 : σ7 [3, c' + 1] = some (.cells [encI l[i]] true) := by
              rw [s7.s _ n9 (nsuf (by simp))]
              simp [encI]
            have a7 : σ7 [2, 2, 5, 2, 1, c + 1] = some (.cells (l.map encI) true) := by
              have hne : (([2, 2, 5, 2, 1, c + 1] : PM.Id) = [3, c' + 1]) = False := by simp
              rw [s7.s _ nA' (fun hs => by
                have := suffix_eq hs (und [1, c + 1] [2, 2, 5, 2]) (by simp)
                simp at this
                omega)]
              simpa [hne] using sA
            simp [k1, k2, k3, k4, k5, hil, hii, hw5, sA, gi, hi0, hi1, hw6, hip, hip2, gp, hp1, hp2, encI, w7]
            repeat' first
              | (refine PW.seq ?_)
              | (refine PW.rg (Mofq [7, 10] [12, 15]) mixed (by kernel_rfl) ?_; simp [pEqNil, k1, k2, k3, k4, k5, hil, hii, hw5, sA, gi, hi0, hi1, hw6, hip, hip2, gp, hp1, hp2, encI, w7, eqP])
              | (refine PW.skip ?_; simp)
              | (refine PW.ret ?_; simp [pEqNil, k1, k2, k3, k4, k5, hil, hii, hw5, sA, gi, hi0, hi1, hw6, hip, hip2, gp, hp1, hp2, encI, w7, eqP]; done)
              | (refine PW.ret ?_; simp [pEqNil, k1, k2, k3, k4, k5, hil, hii, hw5, sA, gi, hi0, hi1, hw6, hip, hip2, gp, hp1, hp2, encI, w7, eqP])
              | (refine PW.exit ?_; simp)
              | (refine PW.condV ?_; simp [pEqNil, k1, k2, k3, k4, k5, hil, hii, hw5, sA, gi, hi0, hi1, hw6, hip, hip2, gp, hp1, hp2, encI, w7, eqP])
              | (refine PW.block ?_)
              | (refine And.intro ?_ ?_)
              | (with_reducible intro _)
            refine CallQ.of (a15 ((q7.put (hL7.at (by omega))).put (hL7.at (by omega))) _ l[i].1) ?_; simp [k1, k2, k3, k4, k5, hil, hii, hw5, sA, gi, hi0, hi1, hw6, hip, hip2, gp, hp1, hp2, encI, has2]
            repeat' first
              | (refine PW.seq ?_)
              | (refine PW.rg (Mofq [7, 10] [12, 15]) mixed (by kernel_rfl) ?_; simp [pEqNil, k1, k2, k3, k4, k5, hil, hii, hw5, sA, gi, hi0, hi1, hw6, hip, hip2, gp, hp1, hp2, encI, has2])
              | (refine PW.skip ?_; simp)
              | (refine PW.ret ?_; simp [pEqNil, k1, k2, k3, k4, k5, hil, hii, hw5, sA, gi, hi0, hi1, hw6, hip, hip2, gp, hp1, hp2, encI, has2]; done)
              | (refine PW.ret ?_; simp [pEqNil, k1, k2, k3, k4, k5, hil, hii, hw5, sA, gi, hi0, hi1, hw6, hip, hip2, gp, hp1, hp2, encI, has2])
              | (refine PW.exit ?_; simp)
              | (refine PW.condV ?_; simp [pEqNil, k1, k2, k3, k4, k5, hil, hii, hw5, sA, gi, hi0, hi1, hw6, hip, hip2, gp, hp1, hp2, encI, has2])
              | (refine PW.block ?_)
              | (refine And.intro ?_ ?_)
              | (with_reducible intro _)
            exact ⟨l.length - (i + 1), by omega, i + 1, rfl, by omega, by omega, a7, G7, (q7.put (hL7.at (by omega))).put (hL7.at (by omega)), hL7.mono fun i' c'' h => by omega, by omega⟩
      · have hii : ¬ (i : Int) < (l.length : Int) := by omega
        rw [List.drop_of_length_le (by omega)] at qq
        repeat' first
          | (refine PW.seq ?_)
          | (refine PW.rg (Mofq [7, 10] [12, 15]) mixed (by kernel_rfl) ?_; simp [pEqNil, k1, k2, k3, k4, k5, hii])
          | (refine PW.skip ?_; simp)
          | (refine PW.ret ?_; simp [pEqNil, k1, k2, k3, k4, k5, hii]; done)
          | (refine PW.ret ?_; simp [pEqNil, k1, k2, k3, k4, k5, hii])
          | (refine PW.exit ?_; simp)
          | (refine PW.condV ?_; simp [pEqNil, k1, k2, k3, k4, k5, hii])
          | (refine PW.block ?_)
          | (refine And.intro ?_ ?_)
          | (with_reducible intro _)
        refine CallS.of (a16_nil qq _) ?_; rintro _ _ ⟨rfl, rfl⟩; simp [k1, k2, k3, k4, k5, hii, encI]
        repeat' first
          | (refine PW.seq ?_)
          | (refine PW.rg (Mofq [7, 10] [12, 15]) mixed (by kernel_rfl) ?_; simp [pEqNil, k1, k2, k3, k4, k5, hii, encI])
          | (refine PW.skip ?_; simp)
          | (refine PW.ret ?_; simp [pEqNil, k1, k2, k3, k4, k5, hii, encI]; done)
          | (refine PW.ret ?_; simp [pEqNil, k1, k2, k3, k4, k5, hii, encI])
          | (refine PW.exit ?_; simp)
          | (refine PW.condV ?_; simp [pEqNil, k1, k2, k3, k4, k5, hii, encI])
          | (refine PW.block ?_)
          | (refine And.intro ?_ ?_)
          | (with_reducible intro _)
        refine CallS.of (a17_nil ((qq.put (hL'.at (by omega))).put (hL'.at (by omega))) _) ?_; rintro _ _ ⟨rfl, rfl⟩; simp [k1, k2, k3, k4, k5, hii, encI]
        repeat' first
          | (refine PW.seq ?_)
          | (refine PW.rg (Mofq [7, 10] [12, 15]) mixed (by kernel_rfl) ?_; simp [pEqNil, k1, k2, k3, k4, k5, hii, encI])
          | (refine PW.skip ?_; simp)
          | (refine PW.ret ?_; simp [pEqNil, k1, k2, k3, k4, k5, hii, encI]; done)
          | (refine PW.ret ?_; simp [pEqNil, k1, k2, k3, k4, k5, hii, encI])
          | (refine PW.exit ?_; simp)
          | (refine PW.condV ?_; simp [pEqNil, k1, k2, k3, k4, k5, hii, encI])
          | (refine PW.block ?_)
          | (refine And.intro ?_ ?_)
          | (with_reducible intro _)
        refine CallQ.of (a12 (((qq.put (hL'.at (by omega))).put (hL'.at (by omega))).put (hL'.at (by omega)) |>.put (hL'.at (by omega))) _) ?_; simp [k1, k2, k3, k4, k5, hii]
        repeat' first
          | (refine PW.seq ?_)
          | (refine PW.rg (Mofq [7, 10] [12, 15]) mixed (by kernel_rfl) ?_; simp [pEqNil, k1, k2, k3, k4, k5, hii])
          | (refine PW.skip ?_; simp)
          | (refine PW.ret ?_; simp [pEqNil, k1, k2, k3, k4, k5, hii]; done)
          | (refine PW.ret ?_; simp [pEqNil, k1, k2, k3, k4, k5, hii])
          | (refine PW.exit ?_; simp)
          | (refine PW.condV ?_; simp [pEqNil, k1, k2, k3, k4, k5, hii])
          | (refine PW.block ?_)
          | (refine And.intro ?_ ?_)
          | (with_reducible intro _)
        skip
end QT
end

