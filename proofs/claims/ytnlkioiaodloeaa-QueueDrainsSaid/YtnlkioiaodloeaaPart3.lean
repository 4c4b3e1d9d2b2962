/- A logic of the model's text over values without addresses, and what the functions that the law reaches come to. Conditions: none. -/
import Derived.Test.YtnlkioiaodloeaaProg
import Derived.Test.YtnlkioiaodloeaaPart2
import Derived.KernelRfl
section
set_option linter.unusedSimpArgs false
set_option linter.unusedVariables false
set_option linter.constructorNameAsVariable false
/- The facts of the seat's types. Printed by facts.py. -/
open Go Go.Proofs Go.PM
namespace QT
theorem mixed : Try.prog.follows .mixedOrders = true := by kernel_rfl
@[simp] theorem fd28_0 : fdI Try.prog 28 0 = some (0, 1, false) := by kernel_rfl
@[simp] theorem fd28_1 : fdI Try.prog 28 1 = some (1, 1, false) := by kernel_rfl
@[simp] theorem fd28_2 : fdI Try.prog 28 2 = some (2, 1, false) := by kernel_rfl
@[simp] theorem fd40_0 : fdI Try.prog 40 0 = some (0, 1, false) := by kernel_rfl
@[simp] theorem fd40_1 : fdI Try.prog 40 1 = some (1, 1, false) := by kernel_rfl
@[simp] theorem fd48_0 : fdI Try.prog 48 0 = some (0, 1, false) := by kernel_rfl
@[simp] theorem fd48_1 : fdI Try.prog 48 1 = some (1, 1, false) := by kernel_rfl
@[simp] theorem fd50_0 : fdI Try.prog 50 0 = some (0, 2, true) := by kernel_rfl
@[simp] theorem fd53_0 : fdI Try.prog 53 0 = some (0, 1, false) := by kernel_rfl
@[simp] theorem fd53_1 : fdI Try.prog 53 1 = some (1, 1, false) := by kernel_rfl
@[simp] theorem fo10 : FuncOK Try.prog 10 = true := by kernel_rfl
@[simp] theorem fo11 : FuncOK Try.prog 11 = true := by kernel_rfl
@[simp] theorem fo12 : FuncOK Try.prog 12 = true := by kernel_rfl
@[simp] theorem fo13 : FuncOK Try.prog 13 = true := by kernel_rfl
@[simp] theorem fo14 : FuncOK Try.prog 14 = true := by kernel_rfl
@[simp] theorem fo15 : FuncOK Try.prog 15 = true := by kernel_rfl
@[simp] theorem fo16 : FuncOK Try.prog 16 = true := by kernel_rfl
@[simp] theorem fo17 : FuncOK Try.prog 17 = true := by kernel_rfl
@[simp] theorem fo18 : FuncOK Try.prog 18 = true := by kernel_rfl
@[simp] theorem fo19 : FuncOK Try.prog 19 = true := by kernel_rfl
@[simp] theorem fo20 : FuncOK Try.prog 20 = true := by kernel_rfl
@[simp] theorem fo21 : FuncOK Try.prog 21 = true := by kernel_rfl
@[simp] theorem fo22 : FuncOK Try.prog 22 = true := by kernel_rfl
@[simp] theorem fo23 : FuncOK Try.prog 23 = true := by kernel_rfl
@[simp] theorem fo24 : FuncOK Try.prog 24 = true := by kernel_rfl
@[simp] theorem fo25 : FuncOK Try.prog 25 = true := by kernel_rfl
@[simp] theorem fo26 : FuncOK Try.prog 26 = true := by kernel_rfl
@[simp] theorem fo27 : FuncOK Try.prog 27 = true := by kernel_rfl
@[simp] theorem fo28 : FuncOK Try.prog 28 = true := by kernel_rfl
@[simp] theorem fo29 : FuncOK Try.prog 29 = true := by kernel_rfl
@[simp] theorem fo3 : FuncOK Try.prog 3 = true := by kernel_rfl
@[simp] theorem fo30 : FuncOK Try.prog 30 = true := by kernel_rfl
@[simp] theorem fo31 : FuncOK Try.prog 31 = true := by kernel_rfl
@[simp] theorem fo32 : FuncOK Try.prog 32 = true := by kernel_rfl
@[simp] theorem fo33 : FuncOK Try.prog 33 = true := by kernel_rfl
@[simp] theorem fo34 : FuncOK Try.prog 34 = true := by kernel_rfl
@[simp] theorem fo37 : FuncOK Try.prog 37 = true := by kernel_rfl
@[simp] theorem fo38 : FuncOK Try.prog 38 = true := by kernel_rfl
@[simp] theorem fo39 : FuncOK Try.prog 39 = true := by kernel_rfl
@[simp] theorem fo4 : FuncOK Try.prog 4 = true := by kernel_rfl
@[simp] theorem fo40 : FuncOK Try.prog 40 = true := by kernel_rfl
@[simp] theorem fo41 : FuncOK Try.prog 41 = true := by kernel_rfl
@[simp] theorem fo5 : FuncOK Try.prog 5 = true := by kernel_rfl
@[simp] theorem fo52 : FuncOK Try.prog 52 = true := by kernel_rfl
@[simp] theorem fo6 : FuncOK Try.prog 6 = true := by kernel_rfl
@[simp] theorem fo7 : FuncOK Try.prog 7 = true := by kernel_rfl
@[simp] theorem fo75 : FuncOK Try.prog 75 = true := by kernel_rfl
@[simp] theorem fo76 : FuncOK Try.prog 76 = true := by kernel_rfl
@[simp] theorem fo77 : FuncOK Try.prog 77 = true := by kernel_rfl
@[simp] theorem fo78 : FuncOK Try.prog 78 = true := by kernel_rfl
@[simp] theorem fo79 : FuncOK Try.prog 79 = true := by kernel_rfl
@[simp] theorem fo8 : FuncOK Try.prog 8 = true := by kernel_rfl
@[simp] theorem fo9 : FuncOK Try.prog 9 = true := by kernel_rfl
@[simp] theorem fr10 : Try.f10.results = #[.tmp 4] := (rfl)
@[simp] theorem fr11 : Try.f11.results = #[.tmp 2] := (rfl)
@[simp] theorem fr12 : Try.f12.results = #[.tmp 2] := (rfl)
@[simp] theorem fr13 : Try.f13.results = #[.tmp 6] := (rfl)
@[simp] theorem fr14 : Try.f14.results = #[.tmp 4] := (rfl)
@[simp] theorem fr15 : Try.f15.results = #[.tmp 4] := (rfl)
@[simp] theorem fr16 : Try.f16.results = #[.cell 2 40, .tmp 3] := (rfl)
@[simp] theorem fr17 : Try.f17.results = #[.cell 2 40, .tmp 3] := (rfl)
@[simp] theorem fr18 : Try.f18.results = #[.tmp 6] := (rfl)
@[simp] theorem fr19 : Try.f19.results = #[.tmp 6, .tmp 7] := (rfl)
@[simp] theorem fr20 : Try.f20.results = #[.cell 2 53, .tmp 3, .tmp 4] := (rfl)
@[simp] theorem fr21 : Try.f21.results = #[.tmp 6, .tmp 7] := (rfl)
@[simp] theorem fr22 : Try.f22.results = #[.tmp 4, .tmp 5] := (rfl)
@[simp] theorem fr23 : Try.f23.results = #[.tmp 4] := (rfl)
@[simp] theorem fr24 : Try.f24.results = #[.tmp 2] := (rfl)
@[simp] theorem fr26 : Try.f26.results = #[.tmp 4] := (rfl)
@[simp] theorem fr27 : Try.f27.results = #[] := (rfl)
@[simp] theorem fr28 : Try.f28.results = #[] := (rfl)
@[simp] theorem fr29 : Try.f29.results = #[.tmp 4] := (rfl)
@[simp] theorem fr3 : Try.f3.results = #[.tmp 2] := (rfl)
@[simp] theorem fr30 : Try.f30.results = #[.tmp 2] := (rfl)
@[simp] theorem fr31 : Try.f31.results = #[] := (rfl)
@[simp] theorem fr32 : Try.f32.results = #[.tmp 4] := (rfl)
@[simp] theorem fr33 : Try.f33.results = #[.tmp 4] := (rfl)
@[simp] theorem fr34 : Try.f34.results = #[.tmp 4] := (rfl)
@[simp] theorem fr37 : Try.f37.results = #[.tmp 2] := (rfl)
@[simp] theorem fr38 : Try.f38.results = #[.tmp 4] := (rfl)
@[simp] theorem fr39 : Try.f39.results = #[] := (rfl)
@[simp] theorem fr4 : Try.f4.results = #[.tmp 2] := (rfl)
@[simp] theorem fr40 : Try.f40.results = #[.tmp 6] := (rfl)
@[simp] theorem fr41 : Try.f41.results = #[.tmp 4] := (rfl)
@[simp] theorem fr5 : Try.f5.results = #[.tmp 6] := (rfl)
@[simp] theorem fr52 : Try.f52.results = #[.tmp 2] := (rfl)
@[simp] theorem fr6 : Try.f6.results = #[.tmp 4] := (rfl)
@[simp] theorem fr7 : Try.f7.results = #[.tmp 0] := (rfl)
@[simp] theorem fr75 : Try.f75.results = #[.tmp 2] := (rfl)
@[simp] theorem fr76 : Try.f76.results = #[.tmp 6] := (rfl)
@[simp] theorem fr77 : Try.f77.results = #[.tmp 2] := (rfl)
@[simp] theorem fr78 : Try.f78.results = #[] := (rfl)
@[simp] theorem fr79 : Try.f79.results = #[] := (rfl)
@[simp] theorem fr8 : Try.f8.results = #[.tmp 0] := (rfl)
@[simp] theorem fr9 : Try.f9.results = #[.tmp 6, .tmp 7] := (rfl)
@[simp] theorem mp46 : mpI Try.prog 46 = some (3, 3, .int .i64) := by kernel_rfl
@[simp] theorem ni40 : notIface Try.prog 40 = true := by kernel_rfl
@[simp] theorem ni62 : notIface Try.prog 62 = true := by kernel_rfl
@[simp] theorem pl40 : plI Try.prog 40 = some #[(0, 1), (1, 1)] := by kernel_rfl
@[simp] theorem pl48 : plI Try.prog 48 = some #[(0, 1), (1, 1)] := by kernel_rfl
@[simp] theorem pl50 : plI Try.prog 50 = some #[(0, 2)] := by kernel_rfl
@[simp] theorem pl53 : plI Try.prog 53 = some #[(0, 1), (1, 1)] := by kernel_rfl
@[simp] theorem sl22 : slI Try.prog 22 = some (28, 3, 24) := by kernel_rfl
@[simp] theorem sl26 : slI Try.prog 26 = some (53, 2, 16) := by kernel_rfl
@[simp] theorem sl32 : slI Try.prog 32 = some (40, 2, 16) := by kernel_rfl
@[simp] theorem sl93 : slI Try.prog 93 = some (3, 1, 8) := by kernel_rfl
@[simp] theorem sz28 : szI Try.prog 28 = some 3 := by kernel_rfl
@[simp] theorem sz40 : szI Try.prog 40 = some 2 := by kernel_rfl
@[simp] theorem sz46 : szI Try.prog 46 = some 1 := by kernel_rfl
@[simp] theorem sz50 : szI Try.prog 50 = some 2 := by kernel_rfl
@[simp] theorem sz53 : szI Try.prog 53 = some 2 := by kernel_rfl
@[simp] theorem ty28 : tyI Try.prog 28 = some (3, true) := by kernel_rfl
@[simp] theorem ty3 : tyI Try.prog 3 = some (1, false) := by kernel_rfl
@[simp] theorem ty32 : tyI Try.prog 32 = some (1, false) := by kernel_rfl
@[simp] theorem ty40 : tyI Try.prog 40 = some (2, true) := by kernel_rfl
@[simp] theorem ty46 : tyI Try.prog 46 = some (1, false) := by kernel_rfl
@[simp] theorem ty53 : tyI Try.prog 53 = some (2, true) := by kernel_rfl
attribute [simp] Try.underlying22
attribute [simp] Try.underlying24
attribute [simp] Try.underlying26
attribute [simp] Try.underlying3
attribute [simp] Try.underlying32
attribute [simp] Try.underlying36
attribute [simp] Try.underlying4
attribute [simp] Try.underlying46
attribute [simp] Try.underlying93
@[simp] theorem zr28 : zrI Try.prog 28 = some [.int .i64 0, .int .i64 0, .int .i64 0] := by kernel_rfl
@[simp] theorem zr3 : zrI Try.prog 3 = some [.int .i64 0] := by kernel_rfl
@[simp] theorem zr40 : zrI Try.prog 40 = some [.int .i64 0, .int .i64 0] := by kernel_rfl
@[simp] theorem zr48 : zrI Try.prog 48 = some [.slice none 0 0, .map none] := by kernel_rfl
@[simp] theorem zr50 : zrI Try.prog 50 = some [.slice none 0 0, .map none] := by kernel_rfl
@[simp] theorem zr53 : zrI Try.prog 53 = some [.int .i64 0, .int .i64 0] := by kernel_rfl
@[simp] theorem zv3 : zvI Try.prog 3 = some (.int .i64 0) := by kernel_rfl
@[simp] theorem me24_Len (p : PV) : pMethod Try.prog 24 p "Len" = some (12, p) := by kernel_rfl
@[simp] theorem me24_Pop (p : PV) : pMethod Try.prog 24 p "Pop" = some (16, p) := by kernel_rfl
@[simp] theorem me24_Push (p : PV) : pMethod Try.prog 24 p "Push" = some (13, p) := by kernel_rfl
@[simp] theorem me62_Len (p : PV) : pMethod Try.prog 62 p "Len" = some (75, p) := by kernel_rfl
@[simp] theorem me62_Less (p : PV) : pMethod Try.prog 62 p "Less" = some (76, p) := by kernel_rfl
@[simp] theorem me62_Pop (p : PV) : pMethod Try.prog 62 p "Pop" = some (77, p) := by kernel_rfl
@[simp] theorem me62_Push (p : PV) : pMethod Try.prog 62 p "Push" = some (78, p) := by kernel_rfl
@[simp] theorem me62_Swap (p : PV) : pMethod Try.prog 62 p "Swap" = some (79, p) := by kernel_rfl
end QT
end

section
set_option linter.unusedSimpArgs false
set_option linter.unusedVariables false
set_option linter.constructorNameAsVariable false
/- Pure contracts of the queue seat. Printed in part by a program. -/
open Go Go.Proofs Go.PM
set_option linter.unusedSimpArgs false
set_option linter.unusedVariables false
namespace QT
attribute [local irreducible] PW FL FR FS FB FM FG CallF CallS PC PCS bindK condK
theorem c52 (a : Int) : PC Try.prog 52 [.v (.int .i64 a)] (.v (.bool false)) := by
  refine PC.of' Try.func52 rfl (by simp) ?_
  repeat' first
    | (refine PW.seq ?_)
    | (refine PW.rg (Mof []) mixed (by kernel_rfl) ?_; simp)
    | (refine PW.skip ?_; simp)
    | (refine PW.ret ?_; simp; done)
    | (refine PW.ret ?_; simp)
    | (refine PW.exit ?_; simp)
    | (refine PW.condV ?_; simp)
    | (refine PW.block ?_)
    | (refine CallF.flat (by first | fail) (by simp) ?_; simp)
    | (refine And.intro ?_ ?_)
    | (with_reducible intro _)

def cmp3 (a b : Int) : Int := if a < b then -1 else if b < a then 1 else 0
theorem c38 (a b : Int) : PC Try.prog 38 [.v (.int .i64 a), .v (.int .i64 b)] (.v (.int .i64 (cmp3 a b))) := by
  refine PC.of' Try.func38 rfl (by simp) ?_
  repeat' first
    | (refine PW.seq ?_)
    | (refine PW.rg (Mof [52]) mixed (by kernel_rfl) ?_; simp [cmp3])
    | (refine PW.skip ?_; simp [cmp3])
    | (refine PW.ret ?_; simp [cmp3]; done)
    | (refine PW.ret ?_; simp [cmp3])
    | (refine PW.exit ?_; simp [cmp3])
    | (refine PW.condV ?_; simp [cmp3])
    | (refine PW.block ?_)
    | (refine CallF.flat (by first | exact c52 _) (by simp) ?_; simp [cmp3])
    | (refine And.intro ?_ ?_)
    | (with_reducible intro _)

  all_goals (try simp_all)
  all_goals omega

def firstNZ : List Int → Int
  | [] => 0
  | a :: r => if a = 0 then firstNZ r else a
theorem firstNZ_drop : ∀ (l : List Int) (k : Nat) (x : Int), l[k]? = some x → firstNZ (l.drop k) = if x = 0 then firstNZ (l.drop (k+1)) else x
  | [], k, x, h => by simp at h
  | a :: r, 0, x, h => by simp at h; subst h; simp [firstNZ]
  | a :: r, k+1, x, h => by simp at h; simpa using firstNZ_drop r k x h
theorem c37 (l : List Int) (hl : l.length ≤ 1000) : PC Try.prog 37 [.sl (l.map fun n => [.v (.int .i64 n)])] (.v (.int .i64 (firstNZ l))) := by
  refine PC.of' Try.func37 rfl (by simp) ?_
  repeat' first
    | (refine PW.seq ?_)
    | (refine PW.rg (Mof []) mixed (by kernel_rfl) ?_; simp)
    | (refine PW.block ?_)
  refine PW.loop (fun n s => ∃ k, n = l.length - k ∧ k ≤ l.length ∧ s.t 8 = .v (.int .i64 k) ∧ s.t 7 = .v (.int .i64 l.length) ∧ s.t 6 = .sl (l.map fun n => [.v (.int .i64 n)]) ∧ s.t 3 = .v (.int .i64 0) ∧ firstNZ (l.drop k) = firstNZ l) l.length ?_ ?_
  · exact ⟨0, by simp⟩
  rintro n ⟨t, σ, c⟩ ⟨k, hn, hk, h8, h7, h6, h3, hf⟩
  simp only at h8 h7 h6 h3
  repeat' first
    | (refine PW.seq ?_)
    | (refine PW.rg (Mof []) mixed (by kernel_rfl) ?_; simp [h8, h7, h6, h3])
    | (refine PW.block ?_)
    | (refine PW.skip ?_; simp)
    | (refine PW.condV ?_; simp)
    | (refine And.intro ?_ ?_)
    | (with_reducible intro _)
  · rename_i h
    obtain ⟨x, hx⟩ : ∃ x, l[k]? = some x := ⟨l[k], by simp [h]⟩
    simp [hx]
    repeat' first
    | (refine PW.seq ?_)
    | (refine PW.rg (Mof []) mixed (by kernel_rfl) ?_; simp [h8, h7, h6, h3])
    | (refine PW.block ?_)
    | (refine PW.skip ?_; simp)
    | (refine PW.condV ?_; simp)
    | (refine PW.ret ?_; simp)
    | (refine And.intro ?_ ?_)
    | (with_reducible intro _)
    · rename_i h0
      rw [← hf, firstNZ_drop l k x hx, if_neg h0]
    · rename_i h0
      refine ⟨n - 1, by omega, k + 1, by omega, by omega, ?_, ?_⟩
      · rw [wrap64 (by omega) (by omega)]; rfl
      · rw [← hf, firstNZ_drop l k x hx, if_pos h0]
  · rename_i h
    refine PW.exit ?_
    simp
    repeat' first
    | (refine PW.seq ?_)
    | (refine PW.rg (Mof []) mixed (by kernel_rfl) ?_; simp [h8, h7, h6, h3])
    | (refine PW.ret ?_; simp)
    rw [← hf, List.drop_of_length_le h]; rfl

def cmpI (x y : Int × Int) : Int := if cmp3 x.2 y.2 = 0 then cmp3 x.1 y.1 else cmp3 x.2 y.2
theorem c26 (x y : Int × Int) : PC Try.prog 26 [.agg [.v (.int .i64 x.1), .v (.int .i64 x.2)], .agg [.v (.int .i64 y.1), .v (.int .i64 y.2)]] (.v (.int .i64 (cmpI x y))) := by
  refine PC.of' Try.func26 rfl (by simp) ?_
  repeat' first
    | (refine PW.seq ?_)
    | (refine PW.rg (Mof [38, 37]) mixed (by kernel_rfl) ?_; simp)
    | (refine PW.skip ?_; simp)
    | (refine PW.ret ?_; simp; done)
    | (refine PW.ret ?_; simp)
    | (refine PW.exit ?_; simp)
    | (refine PW.condV ?_; simp)
    | (refine PW.block ?_)
    | (refine CallF.flat (by first | exact c38 _ _) (by simp) ?_; simp)
    | (refine And.intro ?_ ?_)
    | (with_reducible intro _)

  simp [pBuildSlice, List.replicate, List.range, List.range.loop]
  refine CallF.mk (by simp [frz]) (c37 [cmp3 x.2 y.2, cmp3 x.1 y.1] (by simp)) ?_
  simp
  repeat' first
    | (refine PW.seq ?_)
    | (refine PW.rg (Mof [38, 37]) mixed (by kernel_rfl) ?_; simp)
    | (refine PW.skip ?_; simp)
    | (refine PW.ret ?_; simp; done)
    | (refine PW.ret ?_; simp)
    | (refine PW.exit ?_; simp)
    | (refine PW.condV ?_; simp)
    | (refine PW.block ?_)
    | (refine CallF.flat (by first | exact c38 _ _) (by simp) ?_; simp)
    | (refine And.intro ?_ ?_)
    | (with_reducible intro _)

  simp only [cmpI, firstNZ]
  split <;> simp_all
end QT
end

section
set_option linter.unusedSimpArgs false
set_option linter.unusedVariables false
set_option linter.constructorNameAsVariable false
/- The queue's store: contracts of the pile's methods. Printed in part by a program. -/
open Go hiding Id
open Go.Proofs Go.PM
set_option linter.unusedSimpArgs false
set_option linter.unusedVariables false
namespace QT
attribute [local irreducible] PW FL FR FS FB FM FG CallF CallS PC PCS bindK condK

abbrev It := Int × Int
def encI (x : It) : List PV := [.v (.int .i64 x.1), .v (.int .i64 x.2)]
@[simp] theorem encI_0 (x : It) : (encI x)[0]? = some (.v (.int .i64 x.1)) := (rfl)
@[simp] theorem encI_1 (x : It) : (encI x)[1]? = some (.v (.int .i64 x.2)) := (rfl)
@[simp] theorem encI_g0 (x : It) (h : 0 < (encI x).length) : (encI x)[0]'h = .v (.int .i64 x.1) := (rfl)
@[simp] theorem encI_g1 (x : It) (h : 1 < (encI x).length) : (encI x)[1]'h = .v (.int .i64 x.2) := (rfl)
@[simp] theorem encI_len (x : It) : (encI x).length = 2 := (rfl)
@[simp] theorem encI_take (x : It) : (encI x).take 2 = encI x := (rfl)
@[simp] theorem encI_drop (x : It) : (encI x).drop 2 = [] := (rfl)
@[simp] theorem encI_one (x : It) : (encI x).all PV.one = true := (rfl)
@[simp] theorem encI_one' (x : It) : (∀ p, p ∈ encI x → p.one = true) ↔ True := by simp [encI]
@[simp] theorem encI_flat (x : It) {n : Nat} : (encI x).all (flatP (n + 1)) = true := (rfl)
theorem c26' (x y : It) : PC Try.prog 26 [.agg (encI x), .agg (encI y)] (.v (.int .i64 (cmpI x y))) := c26 x y

/-- Where a number stands in a list of items. -/
def ix : List It → Int → Nat
  | [], _ => 0
  | x :: r, k => if x.1 = k then 0 else ix r k + 1

theorem ix_get : ∀ {l : List It} {i : Nat} {x : It}, (l.map (·.1)).Nodup → l[i]? = some x → ix l x.1 = i
  | [], i, x, _, h => by simp at h
  | y :: r, 0, x, _, h => by simp at h; subst h; simp [ix]
  | y :: r, i + 1, x, hn, h => by
    simp only [List.map_cons, List.nodup_cons] at hn
    simp only [List.getElem?_cons_succ] at h
    have hne : y.1 ≠ x.1 := fun e => hn.1 (by rw [e]; exact List.mem_map_of_mem (List.mem_of_getElem? h))
    simp [ix, hne, ix_get hn.2 h]

/-- The entries of the map: keys and stamps as they came, each with its place. -/
def entsF (mk : List (Int × Nat)) (f : Int → Int) : List (Value × PV × Nat) := mk.map fun e => (.int .i64 e.1, .v (.int .i64 (f e.1)), e.2)
def ents (mk : List (Int × Nat)) (l : List It) : List (Value × PV × Nat) := entsF mk fun k => ix l k

structure MInv (mk : List (Int × Nat)) (clk : Nat) (l : List It) : Prop where
  nodup : (l.map (·.1)).Nodup
  perm : (mk.map (·.1)).Perm (l.map (·.1))
  stamps : (mk.map (·.2)).Nodup
  lt : ∀ e ∈ mk, e.2 < clk

/-- The pile at q has the items l. -/
structure QS (σ : Sto) (q ii im : PM.Id) (it : PV) (rest : List (List PV)) (mk : List (Int × Nat)) (clk : Nat) (l : List It) : Prop where
  hq : σ q = some (.cells [[it, .mp im]] true)
  hm : σ im = some (.map (ents mk l) clk)
  minv : MInv mk clk l
  hit : (it = .nilS ∧ l = []) ∨ (it = .own ii 40 0 l.length ∧ σ ii = some (.cells (l.map encI ++ rest) true))
  ne : q ≠ ii
  ne1 : q ≠ im
  ne2 : ii ≠ im

theorem QS.own {σ : Sto} {q ii im : PM.Id} {it : PV} {rest : List (List PV)} {mk : List (Int × Nat)} {clk : Nat} {l : List It} (h : QS σ q ii im it rest mk clk l) {i : Nat} (hi : i < l.length) :
    it = .own ii 40 0 l.length ∧ σ ii = some (.cells (l.map encI ++ rest) true) := by
  rcases h.hit with ⟨_, rfl⟩ | h
  · simp at hi
  · exact h

theorem es_get {l : List It} {rest : List (List PV)} {i : Nat} (hi : i < l.length) : (l.map encI ++ rest)[i]? = some (encI l[i]) := by
  rw [List.getElem?_append_left (by simpa using hi), List.getElem?_map, List.getElem?_eq_getElem hi]; rfl
theorem es_set {l : List It} {rest : List (List PV)} {i : Nat} (hi : i < l.length) (x : It) : (l.map encI ++ rest).set i (encI x) = (l.set i x).map encI ++ rest := by
  rw [List.set_append_left _ _ (by simpa using hi), List.map_set]

/-- The store with other items in the same block. -/
def setL (σ : Sto) (ii im : PM.Id) (l : List It) (rest : List (List PV)) (mk : List (Int × Nat)) (clk : Nat) : Sto := upd (upd σ ii (some (.cells (l.map encI ++ rest) true))) im (some (.map (ents mk l) clk))

theorem setL_setL (σ : Sto) (ii im : PM.Id) (l l' : List It) (rest : List (List PV)) (mk : List (Int × Nat)) (clk : Nat) : setL (setL σ ii im l rest mk clk) ii im l' rest mk clk = setL σ ii im l' rest mk clk := by
  funext j; simp only [setL, upd]; split <;> (try split) <;> rfl

theorem QS.setL {σ : Sto} {q ii im : PM.Id} {it : PV} {rest : List (List PV)} {mk : List (Int × Nat)} {clk : Nat} {l l' : List It} (h : QS σ q ii im it rest mk clk l) (hp : l'.Perm l) (h0 : l ≠ []) : QS (setL σ ii im l' rest mk clk) q ii im it rest mk clk l' := by
  obtain ⟨h1, h2⟩ := h.own (i := 0) (List.length_pos_iff.2 h0)
  have hmp := hp.map (·.1)
  refine ⟨?_, ?_, ⟨?_, h.minv.perm.trans hmp.symm, h.minv.stamps, h.minv.lt⟩, .inr ⟨by rw [h1, hp.length_eq], ?_⟩, h.ne, h.ne1, h.ne2⟩
  · simp only [QT.setL, upd, h.ne, h.ne1, if_false]; exact h.hq
  · simp [QT.setL, upd]
  · exact hmp.nodup_iff.2 h.minv.nodup
  · simp [QT.setL, upd, h.ne2]

theorem c75 {σ : Sto} {q ii im : PM.Id} {it : PV} {rest : List (List PV)} {mk : List (Int × Nat)} {clk : Nat} {l : List It} (h : QS σ q ii im it rest mk clk l) (id : PM.Id) :
    PCS Try.prog id 75 [.ptr q 0 0] σ (fun r σ' => r = .v (.int .i64 l.length) ∧ σ' = σ) := by
  refine PCS.of Try.func75 rfl (by simp) ⟨_, _, rfl, rfl⟩ fun hfr => ?_
  show PW _ _ _ _ ⟨entry _, σ, 0⟩ _
  have hq := h.hq
  have hl : pLen Try.prog σ 32 it = some (.v (.int .i64 l.length)) := by
    rcases h.hit with ⟨rfl, rfl⟩ | ⟨rfl, _⟩ <;> simp
  repeat' first
    | (refine PW.seq ?_)
    | (refine PW.rg (Mof []) mixed (by kernel_rfl) ?_; simp [hq, hl, -pLen])
    | (refine PW.skip ?_; simp [hq, hl, -pLen])
    | (refine PW.ret ?_; simp [hq, hl, -pLen]; done)
    | (refine PW.ret ?_; simp [hq, hl, -pLen])
    | (refine PW.exit ?_; simp [hq, hl, -pLen])
    | (refine PW.condV ?_; simp [hq, hl, -pLen])
    | (refine PW.block ?_)
    | (refine CallF.flat (by first | fail) (by simp) ?_; simp [hq, hl, -pLen])
    | (refine And.intro ?_ ?_)
    | (with_reducible intro _)


theorem c76 {σ : Sto} {q ii im : PM.Id} {it : PV} {rest : List (List PV)} {mk : List (Int × Nat)} {clk : Nat} {l : List It} (h : QS σ q ii im it rest mk clk l) (id : PM.Id) {i j : Nat} (hi : i < l.length) (hj : j < l.length) :
    PCS Try.prog id 76 [.ptr q 0 0, .v (.int .i64 i), .v (.int .i64 j)] σ (fun r σ' => r = .v (.bool (decide (cmpI l[i] l[j] < 0))) ∧ σ' = σ) := by
  refine PCS.of Try.func76 rfl (by simp) ⟨_, _, rfl, rfl⟩ fun hfr => ?_
  show PW _ _ _ _ ⟨entry _, σ, 0⟩ _
  have hq := h.hq
  obtain ⟨hit, hσ⟩ := h.own hi
  have hei := es_get (rest := rest) hi
  have hej := es_get (rest := rest) hj
  subst hit
  generalize hE : l.map encI ++ rest = es at hσ hei hej
  repeat' first
    | (refine PW.seq ?_)
    | (refine PW.rg (Mof [26]) mixed (by kernel_rfl) ?_; simp [hq, hσ, hei, hej, hi, hj])
    | (refine PW.skip ?_; simp [hq, hσ, hei, hej, hi, hj])
    | (refine PW.ret ?_; simp [hq, hσ, hei, hej, hi, hj]; done)
    | (refine PW.ret ?_; simp [hq, hσ, hei, hej, hi, hj])
    | (refine PW.exit ?_; simp [hq, hσ, hei, hej, hi, hj])
    | (refine PW.condV ?_; simp [hq, hσ, hei, hej, hi, hj])
    | (refine PW.block ?_)
    | (refine CallF.flat (by first | exact c26' _ _) (by simp) ?_; simp [hq, hσ, hei, hej, hi, hj])
    | (refine And.intro ?_ ?_)
    | (with_reducible intro _)

def swapL (l : List It) (i j : Nat) (hi : i < l.length) (hj : j < l.length) : List It := (l.set i l[j]).set j l[i]

theorem findP_entsF {mk : List (Int × Nat)} {f : Int → Int} (k : Int) : ∀ (i : Nat), findP (.int .i64) (.int .i64 k) (entsF mk f) i = some ((mk.findIdx? (·.1 == k)).map (· + i)) := by
  unfold entsF
  induction mk with
  | nil => intro i; rfl
  | cons e r ih =>
    intro i
    simp only [List.map_cons, findP]
    have hs : Instr.sameNow (.int .i64) (.int .i64 k) (.int .i64 e.1) = some (k == e.1) := by simp [Instr.sameNow]
    rw [hs, List.findIdx?_cons]
    by_cases h : e.1 = k
    · subst h; simp
    · have h' : (k == e.1) = false := by simp; exact fun e => h e.symm
      have h2 : (e.1 == k) = false := by simpa using h
      rw [h', h2, ih]
      simp only [Bool.false_eq_true, if_false, Option.map_map]
      congr 2
      funext a
      simp only [Function.comp]
      omega

/-- In a row without doubles a thing is found at its place. -/
theorem findIdx_nodup {α β : Type} [DecidableEq β] (g : α → β) : ∀ {l : List α} {a : Nat} {x : α}, (l.map g).Nodup → l[a]? = some x → l.findIdx? (fun e => g e == g x) = some a
  | [], a, x, _, h => by simp at h
  | y :: r, 0, x, _, h => by simp at h; subst h; simp [List.findIdx?_cons]
  | y :: r, a + 1, x, hn, h => by
    simp only [List.map_cons, List.nodup_cons] at hn
    simp only [List.getElem?_cons_succ] at h
    have hne : g y ≠ g x := fun e => hn.1 (by rw [e]; exact List.mem_map_of_mem (List.mem_of_getElem? h))
    have h2 : (g y == g x) = false := by simpa using hne
    rw [List.findIdx?_cons, h2, findIdx_nodup g hn.2 h]
    rfl

section
variable {mk : List (Int × Nat)} {f : Int → Int} {a : Nat} {k : Int} {s : Nat}
theorem findF (hk : (mk.map (·.1)).Nodup) (he : mk[a]? = some (k, s)) : findP (.int .i64) (.int .i64 k) (entsF mk f) 0 = some (some a) := by
  rw [findP_entsF, findIdx_nodup (·.1) hk he]
  rfl
theorem getF (he : mk[a]? = some (k, s)) : (entsF mk f)[a]? = some (.int .i64 k, .v (.int .i64 (f k)), s) := by
  simp [entsF, he]
theorem stampF (hs : (mk.map (·.2)).Nodup) (he : mk[a]? = some (k, s)) : (entsF mk f).findIdx? (fun e => (e.2.2 : Int) == (s : Int)) = some a := by
  unfold entsF
  rw [List.findIdx?_map]
  have := findIdx_nodup (·.2) hs he
  rw [← this]
  congr 1
  funext e
  simp only [Function.comp]
  by_cases h : e.2 = s
  · simp [h]
  · have h1 : ((e.2 : Int) == (s : Int)) = false := by simp; omega
    have h2 : (e.2 == s) = false := by simpa using h
    rw [h1, h2]
theorem setF (hk : (mk.map (·.1)).Nodup) (he : mk[a]? = some (k, s)) (v : Int) : (entsF mk f).set a (.int .i64 k, .v (.int .i64 v), s) = entsF mk (fun x => if x = k then v else f x) := by
  apply List.ext_getElem?
  intro b
  rw [List.getElem?_set]
  by_cases hab : a = b
  · subst hab
    have hl0 := (List.getElem?_eq_some_iff.1 he).1
    obtain ⟨_, he2⟩ := List.getElem?_eq_some_iff.1 he
    simp [hl0, entsF, he2]
  · rw [if_neg hab]
    simp only [entsF, List.getElem?_map]
    cases hb : mk[b]? with
    | none => rfl
    | some e =>
      have hne : e.1 ≠ k := by
        intro h
        have h1 : (mk.map (·.1))[a]? = some k := by simp [he]
        have h2 : (mk.map (·.1))[b]? = some k := by simp [hb, h]
        exact hab ((List.getElem?_inj (by simpa using (List.getElem?_eq_some_iff.1 he).1) hk).1 (h1.trans h2.symm))
      simp [hne]
theorem entsF_congr {f g : Int → Int} (h : ∀ e ∈ mk, f e.1 = g e.1) : entsF mk f = entsF mk g := by
  unfold entsF
  apply List.map_congr_left
  intro e he
  rw [h e he]
end

theorem MInv.keys {mk : List (Int × Nat)} {clk : Nat} {l : List It} (h : MInv mk clk l) : (mk.map (·.1)).Nodup := h.perm.nodup_iff.2 h.nodup
theorem MInv.ent {mk : List (Int × Nat)} {clk : Nat} {l : List It} (h : MInv mk clk l) {i : Nat} (hi : i < l.length) : ∃ (a s : Nat), mk[a]? = some (l[i].1, s) := by
  have : l[i].1 ∈ mk.map (·.1) := h.perm.mem_iff.2 (List.mem_map_of_mem (List.getElem_mem hi))
  obtain ⟨e, he, hk⟩ := List.mem_map.1 this
  obtain ⟨a, ha⟩ := List.getElem?_of_mem he
  exact ⟨a, e.2, by rw [ha, ← hk]⟩

theorem swapL_perm {l : List It} {i j : Nat} (hi : i < l.length) (hj : j < l.length) : (swapL l i j hi hj).Perm l := List.set_set_perm hi hj
theorem swapL_len {l : List It} {i j : Nat} (hi : i < l.length) (hj : j < l.length) : (swapL l i j hi hj).length = l.length := (swapL_perm hi hj).length_eq
theorem swapL_get {l : List It} {i j : Nat} (hi : i < l.length) (hj : j < l.length) (c : Nat) : (swapL l i j hi hj)[c]? = if c = j then some l[i] else if c = i then some l[j] else l[c]? := by
  unfold swapL
  rw [List.getElem?_set, List.getElem?_set]
  by_cases h1 : c = j
  · subst h1; simp [hj]
  · rw [if_neg (Ne.symm h1), if_neg h1]
    by_cases h2 : c = i
    · subst h2; simp [hi]
    · rw [if_neg (Ne.symm h2), if_neg h2]

theorem ents_swap {mk : List (Int × Nat)} {clk : Nat} {l : List It} (h : MInv mk clk l) {i j : Nat} (hi : i < l.length) (hj : j < l.length) :
    entsF mk (fun x => if x = l[i].1 then (j : Int) else if x = l[j].1 then (i : Int) else ix l x) = ents mk (swapL l i j hi hj) := by
  refine entsF_congr fun e he => ?_
  have hnd : ((swapL l i j hi hj).map (·.1)).Nodup := ((swapL_perm hi hj).map _).nodup_iff.2 h.nodup
  have hmem : e.1 ∈ l.map (·.1) := h.perm.mem_iff.1 (List.mem_map_of_mem he)
  obtain ⟨x, hx, hk⟩ := List.mem_map.1 hmem
  obtain ⟨c, hc⟩ := List.getElem?_of_mem hx
  have hinj : ∀ {c d : Nat} {x y : It}, l[c]? = some x → l[d]? = some y → x.1 = y.1 → c = d := fun {c d x y} h1 h2 h3 => by
    have e1 := ix_get h.nodup h1
    have e2 := ix_get h.nodup h2
    rw [← e1, ← e2, h3]
  rw [← hk]
  by_cases h1 : x.1 = l[i].1
  · have hci := hinj hc (List.getElem?_eq_getElem hi) h1
    rw [if_pos h1, h1, ix_get hnd (i := j) (by rw [swapL_get, if_pos rfl])]
  · rw [if_neg h1]
    by_cases h2 : x.1 = l[j].1
    · have hcj := hinj hc (List.getElem?_eq_getElem hj) h2
      have hij : i ≠ j := by rintro rfl; exact h1 h2
      rw [if_pos h2, h2, ix_get hnd (i := i) (by rw [swapL_get, if_neg hij, if_pos rfl])]
    · rw [if_neg h2]
      have hcj : c ≠ j := by rintro rfl; rw [List.getElem?_eq_getElem hj] at hc; injection hc with hc; exact h2 (by rw [hc])
      have hci : c ≠ i := by rintro rfl; rw [List.getElem?_eq_getElem hi] at hc; injection hc with hc; exact h1 (by rw [hc])
      rw [ix_get h.nodup hc, ix_get hnd (i := c) (x := x) (by rw [swapL_get, if_neg hcj, if_neg hci]; exact hc)]

theorem c79 {σ : Sto} {q ii im : PM.Id} {it : PV} {rest : List (List PV)} {mk : List (Int × Nat)} {clk : Nat} {l : List It} (h : QS σ q ii im it rest mk clk l) (id : PM.Id) {i j : Nat} (hi : i < l.length) (hj : j < l.length) :
    PCS Try.prog id 79 [.ptr q 0 0, .v (.int .i64 i), .v (.int .i64 j)] σ (fun r σ' => r = .tup [] ∧ σ' = setL σ ii im (swapL l i j hi hj) rest mk clk) := by
  refine PCS.of Try.func79 rfl (by simp) ⟨_, _, rfl, rfl⟩ fun hfr => ?_
  show PW _ _ _ _ ⟨entry _, σ, 0⟩ _
  have hq := h.hq
  have hm := h.hm
  have n1 := h.ne
  have n2 := h.ne1
  have n3 := h.ne2
  have n1' := Ne.symm n1
  have n2' := Ne.symm n2
  have n3' := Ne.symm n3
  obtain ⟨hit, hσ⟩ := h.own hi
  have hei := es_get (rest := rest) hi
  have hej := es_get (rest := rest) hj
  have hs : ((l.map encI ++ rest).set i (encI l[j])).set j (encI l[i]) = (swapL l i j hi hj).map encI ++ rest := by
    rw [es_set hi, es_set (by simpa using hj)]; rfl
  have hei1 : ((swapL l i j hi hj).map encI ++ rest)[i]? = some (encI l[j]) := by
    rw [es_get (by rw [swapL_len]; exact hi)]
    have := swapL_get hi hj i
    rw [List.getElem?_eq_getElem (by rw [swapL_len]; exact hi)] at this
    split at this
    · rename_i hij; injection this with this; subst hij; rw [this]
    · simp at this; rw [this]
  have hej1 : ((swapL l i j hi hj).map encI ++ rest)[j]? = some (encI l[i]) := by
    rw [es_get (by rw [swapL_len]; exact hj)]
    have := swapL_get hi hj j
    rw [List.getElem?_eq_getElem (by rw [swapL_len]; exact hj)] at this
    simp at this; rw [this]
  have hejs : ((l.map encI ++ rest).set i (encI l[j]))[j]? = some (encI (if i = j then l[j] else l[j])) := by
    rw [es_set hi, es_get (by simpa using hj)]
    simp [List.getElem_set]
  simp only [ite_self] at hejs
  obtain ⟨a, s1, ha⟩ := h.minv.ent hj
  obtain ⟨b, s2, hb⟩ := h.minv.ent hi
  have hk := h.minv.keys
  have hst := h.minv.stamps
  have hfin := ents_swap h.minv hi hj
  have f1 := fun f => findF (f := f) hk ha
  have f2 := fun f => findF (f := f) hk hb
  have g1 := fun f => getF (f := f) ha
  have g2 := fun f => getF (f := f) hb
  have t1 := fun f => stampF (f := f) hst ha
  have t2 := fun f => stampF (f := f) hst hb
  have u1 := fun f v => setF (f := f) hk ha v
  have u2 := fun f v => setF (f := f) hk hb v
  unfold ents at hm
  subst hit
  unfold setL
  rw [← hfin]
  clear hfin
  generalize hE : l.map encI ++ rest = es at hσ hei hej hs hejs
  generalize hE1 : (swapL l i j hi hj).map encI ++ rest = es1 at *
  generalize hx : l[i] = x at *
  generalize hy : l[j] = y at *
  repeat' first
    | (refine PW.seq ?_)
    | (refine PW.rg (Mof []) mixed (by kernel_rfl) ?_; simp [hq, hσ, hei, hej, hi, hj, n1, n2, n3, n1', n2', n3', hs, hei1, hej1, hejs, hm, f1, f2, g1, g2, t1, t2, u1, u2, pMapEntry, pEntryStore, toV])
    | (refine PW.skip ?_; simp [hq, hσ, hei, hej, hi, hj, n1, n2, n3, n1', n2', n3', hs, hei1, hej1, hejs, hm, f1, f2, g1, g2, t1, t2, u1, u2, pMapEntry, pEntryStore, toV])
    | (refine PW.ret ?_; simp [hq, hσ, hei, hej, hi, hj, n1, n2, n3, n1', n2', n3', hs, hei1, hej1, hejs, hm, f1, f2, g1, g2, t1, t2, u1, u2, pMapEntry, pEntryStore, toV]; done)
    | (refine PW.ret ?_; simp [hq, hσ, hei, hej, hi, hj, n1, n2, n3, n1', n2', n3', hs, hei1, hej1, hejs, hm, f1, f2, g1, g2, t1, t2, u1, u2, pMapEntry, pEntryStore, toV])
    | (refine PW.exit ?_; simp [hq, hσ, hei, hej, hi, hj, n1, n2, n3, n1', n2', n3', hs, hei1, hej1, hejs, hm, f1, f2, g1, g2, t1, t2, u1, u2, pMapEntry, pEntryStore, toV])
    | (refine PW.condV ?_; simp [hq, hσ, hei, hej, hi, hj, n1, n2, n3, n1', n2', n3', hs, hei1, hej1, hejs, hm, f1, f2, g1, g2, t1, t2, u1, u2, pMapEntry, pEntryStore, toV])
    | (refine PW.block ?_)
    | (refine CallF.flat (by first | fail) (by simp) ?_; simp [hq, hσ, hei, hej, hi, hj, n1, n2, n3, n1', n2', n3', hs, hei1, hej1, hejs, hm, f1, f2, g1, g2, t1, t2, u1, u2, pMapEntry, pEntryStore, toV])
    | (refine And.intro ?_ ?_)
    | (with_reducible intro _)

  rename_i jj B hB
  by_cases h1 : jj = im
  · simpa [h1] using hB
  · simp only [h1, if_false] at hB ⊢
    by_cases h2 : jj = ii
    · simpa [h2] using hB
    · simpa [h2] using hB
end QT
end

section
set_option linter.unusedSimpArgs false
set_option linter.unusedVariables false
set_option linter.constructorNameAsVariable false
/- The queue's store: the pile's Push and Pop. Printed in part by a program. -/
open Go hiding Id
open Go.Proofs Go.PM
set_option linter.unusedSimpArgs false
set_option linter.unusedVariables false
namespace QT
attribute [local irreducible] PW FL FR FS FB FM FG CallF CallS PC PCS bindK condK

theorem fresh_ne {σ : Sto} {id q : PM.Id} {B : Blk} (hfr : ∀ j, id <:+ j → σ j = none) (hq : σ q = some B) : ∀ k c, (q = k :: c :: id) = False ∧ (k :: c :: id = q) = False := by
  intro k c
  have : q ≠ k :: c :: id := by
    rintro rfl
    rw [hfr (k :: c :: id) ⟨[k, c], rfl⟩] at hq
    cases hq
  exact ⟨eq_false this, eq_false (Ne.symm this)⟩

theorem ix_dropLast {l : List It} {k : Int} (h : k ∈ l.dropLast.map (·.1)) : ix l.dropLast k = ix l k := by
  induction l with
  | nil => rfl
  | cons x r ih =>
    cases r with
    | nil => simp at h
    | cons y r =>
      simp only [List.dropLast_cons_cons, List.map_cons, List.mem_cons] at h
      simp only [List.dropLast_cons_cons, ix]
      by_cases hk : x.1 = k
      · simp [hk]
      · rw [if_neg hk, if_neg hk, ih (h.resolve_left fun e => hk e.symm)]
        rfl

theorem erase_perm {α : Type} : ∀ {l : List α} {a : Nat} {x : α}, l[a]? = some x → (x :: l.eraseIdx a).Perm l
  | [], a, x, h => by simp at h
  | y :: r, 0, x, h => by simp at h; subst h; simp
  | y :: r, a + 1, x, h => by
    simp only [List.getElem?_cons_succ] at h
    simp only [List.eraseIdx_cons_succ]
    exact (List.Perm.swap y x _).trans ((erase_perm h).cons y)
theorem erase_map {α β : Type} (f : α → β) : ∀ (l : List α) (a : Nat), (l.map f).eraseIdx a = (l.eraseIdx a).map f
  | [], a => by simp
  | y :: r, 0 => by simp
  | y :: r, a + 1 => by simp [erase_map f r a]

theorem pop_mk {mk : List (Int × Nat)} {clk : Nat} {l : List It} (h : MInv mk clk l) (h0 : 0 < l.length) {a s : Nat} (ha : mk[a]? = some ((l[l.length - 1]'(by omega)).1, s)) :
    MInv (mk.eraseIdx a) clk l.dropLast ∧ (ents mk l).eraseIdx a = ents (mk.eraseIdx a) l.dropLast := by
  have hl : l = l.dropLast ++ [l[l.length - 1]'(by omega)] := by
    have := List.dropLast_concat_getLast (l := l) (by intro e; subst e; simp at h0)
    rw [List.getLast_eq_getElem] at this
    exact this.symm
  have halt := (List.getElem?_eq_some_iff.1 ha).1
  have hae : mk[a] = ((l[l.length - 1]'(by omega)).1, s) := by rw [List.getElem?_eq_getElem halt] at ha; exact Option.some.inj ha
  have hperm : ((mk.eraseIdx a).map (·.1)).Perm (l.dropLast.map (·.1)) := by
    have h1 : (mk[a] :: mk.eraseIdx a).Perm mk := erase_perm (List.getElem?_eq_getElem halt)
    have h2 := (h1.map (·.1)).trans h.perm
    rw [hl] at h2
    rw [List.map_append] at h2
    have h3 : (((l[l.length - 1]'(by omega)).1) :: (mk.eraseIdx a).map (·.1)).Perm (((l[l.length - 1]'(by omega)).1) :: l.dropLast.map (·.1)) := by
      have h4 := h2.trans (List.perm_append_comm)
      simpa [hae] using h4
    exact List.Perm.cons_inv h3
  have hsub : (mk.eraseIdx a).Sublist mk := List.eraseIdx_sublist _ _
  refine ⟨⟨?_, hperm, (hsub.map _).nodup h.stamps, fun e he => h.lt e (hsub.subset he)⟩, ?_⟩
  · exact ((List.dropLast_sublist l).map _).nodup h.nodup
  · unfold ents entsF
    rw [erase_map]
    apply List.map_congr_left
    intro e he
    have hm : e.1 ∈ l.dropLast.map (·.1) := hperm.mem_iff.1 (List.mem_map_of_mem he)
    simp only [ix_dropLast hm]

theorem c77 {σ : Sto} {q ii im : PM.Id} {it : PV} {rest : List (List PV)} {mk : List (Int × Nat)} {clk : Nat} {l : List It} (h : QS σ q ii im it rest mk clk l) (id : PM.Id) (h0 : 0 < l.length) (hmax : l.length ≤ 100000) :
    ∃ mk', MInv mk' clk l.dropLast ∧ PCS Try.prog id 77 [.ptr q 0 0] σ (fun r σ' => r = .iface 40 (.agg (encI (l[l.length - 1]'(by omega)))) ∧ σ' = upd (upd σ q (some (.cells [[.own ii 40 0 (l.length - 1), .mp im]] true))) im (some (.map (ents mk' l.dropLast) clk))) := by
  have hi : l.length - 1 < l.length := by omega
  obtain ⟨a, s1, ha⟩ := h.minv.ent hi
  obtain ⟨hmk, her⟩ := pop_mk h.minv h0 ha
  refine ⟨mk.eraseIdx a, hmk, ?_⟩
  refine PCS.of Try.func77 rfl (by simp) ⟨_, _, rfl, rfl⟩ fun hfr => ?_
  show PW _ _ _ _ ⟨entry _, σ, 0⟩ _
  have hq := h.hq
  have hm := h.hm
  have n1 := h.ne
  have n2 := h.ne1
  have n3 := h.ne2
  have n1' := Ne.symm n1
  have n2' := Ne.symm n2
  have n3' := Ne.symm n3
  obtain ⟨hit, hσ⟩ := h.own hi
  have hei := es_get (rest := rest) hi
  have fq := fresh_ne hfr hq
  have fm := fresh_ne hfr hm
  have fi := fresh_ne hfr hσ
  have hk := h.minv.keys
  have f1 := findF (f := fun k => ix l k) hk ha
  rw [← her]
  unfold ents at hm ⊢
  have hw : IntKind.i64.wrap ((l.length : Int) - 1) = ((l.length - 1 : Nat) : Int) := by
    rw [wrap64 (by omega) (by omega)]; omega
  subst hit
  generalize hE : l.map encI ++ rest = es at hσ hei
  generalize hx : l[l.length - 1] = x at *
  repeat' first
    | (refine PW.seq ?_)
    | (refine PW.rg (Mof []) mixed (by kernel_rfl) ?_; simp [hq, hσ, hei, hi, n1, n2, n3, n1', n2', n3', hm, f1, fq, fm, fi, hw, pSlice, pDelete, toV])
    | (refine PW.skip ?_; simp [hq, hσ, hei, hi, n1, n2, n3, n1', n2', n3', hm, f1, fq, fm, fi, hw, pSlice, pDelete, toV])
    | (refine PW.ret ?_; simp [hq, hσ, hei, hi, n1, n2, n3, n1', n2', n3', hm, f1, fq, fm, fi, hw, pSlice, pDelete, toV]; done)
    | (refine PW.ret ?_; simp [hq, hσ, hei, hi, n1, n2, n3, n1', n2', n3', hm, f1, fq, fm, fi, hw, pSlice, pDelete, toV])
    | (refine PW.exit ?_; simp [hq, hσ, hei, hi, n1, n2, n3, n1', n2', n3', hm, f1, fq, fm, fi, hw, pSlice, pDelete, toV])
    | (refine PW.condV ?_; simp [hq, hσ, hei, hi, n1, n2, n3, n1', n2', n3', hm, f1, fq, fm, fi, hw, pSlice, pDelete, toV])
    | (refine PW.block ?_)
    | (refine CallF.flat (by first | fail) (by simp) ?_; simp [hq, hσ, hei, hi, n1, n2, n3, n1', n2', n3', hm, f1, fq, fm, fi, hw, pSlice, pDelete, toV])
    | (refine And.intro ?_ ?_)
    | (with_reducible intro _)

  rename_i jj B hB
  by_cases h1 : jj = im
  · simpa [h1] using hB
  · simp only [h1, if_false] at hB ⊢
    by_cases h2 : jj = q
    · simpa [h2] using hB
    · simp only [h2, if_false] at hB ⊢
      have : jj ≠ 12 :: 1 :: id := by
        rintro rfl
        rw [hfr (12 :: 1 :: id) ⟨[12, 1], rfl⟩] at hB
        cases hB
      simpa [this] using hB

theorem c78 {σ : Sto} {q ii im : PM.Id} {it : PV} {rest : List (List PV)} {mk : List (Int × Nat)} {clk : Nat} {l : List It} (h : QS σ q ii im it rest mk clk l) (id : PM.Id) (x : It) (hx : x.1 ∉ l.map (·.1)) (hmax : l.length ≤ 100000) :
    PCS Try.prog id 78 [.ptr q 0 0, .iface 40 (.agg (encI x))] σ (fun r σ' => r = .tup [] ∧ σ' = upd (upd (upd (upd σ ii none) (7 :: 2 :: id) (some (.cells ((l ++ [x]).map encI) true))) q (some (.cells [[.own (7 :: 2 :: id) 40 0 (l.length + 1), .mp im]] true))) im (some (.map (ents mk l ++ [(.int .i64 x.1, .v (.int .i64 l.length), clk)]) (clk + 1)))) := by
  refine PCS.of Try.func78 rfl (by simp) ⟨_, _, rfl, rfl⟩ fun hfr => ?_
  show PW _ _ _ _ ⟨entry _, σ, 0⟩ _
  have hq := h.hq
  have hm := h.hm
  have n1 := h.ne
  have n2 := h.ne1
  have n3 := h.ne2
  have n1' := Ne.symm n1
  have n2' := Ne.symm n2
  have n3' := Ne.symm n3
  have fq := fresh_ne hfr hq
  have fm := fresh_ne hfr hm
  have hkx : findP (.int .i64) (.int .i64 x.1) (ents mk l) 0 = some none := by
    unfold ents
    rw [findP_entsF]
    have : mk.findIdx? (fun e => e.1 == x.1) = none := by
      rw [List.findIdx?_eq_none_iff]
      intro e he
      have hm : e.1 ∈ l.map (·.1) := h.minv.perm.mem_iff.1 (List.mem_map_of_mem he)
      have : e.1 ≠ x.1 := fun e' => hx (e' ▸ hm)
      simpa using this
    rw [this]
    rfl
  have hl : ∀ σ, pLen Try.prog σ 32 it = some (.v (.int .i64 l.length)) := by
    intro σ
    rcases h.hit with ⟨rfl, rfl⟩ | ⟨rfl, _⟩ <;> simp
  rcases h.hit with ⟨rfl, rfl⟩ | ⟨rfl, hσ⟩
  · repeat' first
      | (refine PW.seq ?_)
      | (refine PW.rg (Mof []) mixed (by kernel_rfl) ?_; simp [hq, n1, n2, n3, n1', n2', n3', hm, hkx, fq, fm, pMapUpdate, toV, pAppend, pBuildSlice, elemsOf, List.replicate, List.range, List.range.loop])
      | (refine PW.skip ?_; simp [hq, n1, n2, n3, n1', n2', n3', hm, hkx, fq, fm, pMapUpdate, toV, pAppend, pBuildSlice, elemsOf, List.replicate, List.range, List.range.loop])
      | (refine PW.ret ?_; simp [hq, n1, n2, n3, n1', n2', n3', hm, hkx, fq, fm, pMapUpdate, toV, pAppend, pBuildSlice, elemsOf, List.replicate, List.range, List.range.loop]; done)
      | (refine PW.ret ?_; simp [hq, n1, n2, n3, n1', n2', n3', hm, hkx, fq, fm, pMapUpdate, toV, pAppend, pBuildSlice, elemsOf, List.replicate, List.range, List.range.loop])
      | (refine PW.exit ?_; simp [hq, n1, n2, n3, n1', n2', n3', hm, hkx, fq, fm, pMapUpdate, toV, pAppend, pBuildSlice, elemsOf, List.replicate, List.range, List.range.loop])
      | (refine PW.condV ?_; simp [hq, n1, n2, n3, n1', n2', n3', hm, hkx, fq, fm, pMapUpdate, toV, pAppend, pBuildSlice, elemsOf, List.replicate, List.range, List.range.loop])
      | (refine PW.block ?_)
      | (refine CallF.flat (by first | fail) (by simp) ?_; simp [hq, n1, n2, n3, n1', n2', n3', hm, hkx, fq, fm, pMapUpdate, toV, pAppend, pBuildSlice, elemsOf, List.replicate, List.range, List.range.loop])
      | (refine And.intro ?_ ?_)
      | (with_reducible intro _)

    rename_i jj B hB
    by_cases e1 : jj = im
    · subst e1; simpa [n1, n2, n3, n1', n2', n3', fm] using hB
    by_cases e2 : jj = q
    · subst e2; simpa [n1, n2, n3, n1', n2', n3', fq] using hB
    by_cases e3 : jj = 7 :: 2 :: id
    · subst e3; simpa [fm, fq] using hB
    simp only [e1, e2, e3, if_false] at hB ⊢
    by_cases e4 : jj = ii
    · simp [e4] at hB
    simp only [e4, if_false] at hB
    have g1 : jj ≠ 6 :: 2 :: id := by
      rintro rfl
      rw [hfr (6 :: 2 :: id) ⟨[6, 2], rfl⟩] at hB
      cases hB
    have g2 : jj ≠ 2 :: 0 :: id := by
      rintro rfl
      rw [hfr (2 :: 0 :: id) ⟨[2, 0], rfl⟩] at hB
      cases hB
    simpa [g1, g2, e1, e4] using hB
  · have fi := fresh_ne hfr hσ
    have hlen : l.length ≤ (l.map encI ++ rest).length := by simp
    have htk : (l.map encI ++ rest).take l.length = l.map encI := by
      rw [List.take_append_of_le_length (by simp), List.take_of_length_le (by simp)]
    generalize hE : l.map encI ++ rest = es at hσ hlen htk
    have hb : ((l.length : Nat) + 1) * 16 ≤ 140737488355328 := by omega
    repeat' first
      | (refine PW.seq ?_)
      | (refine PW.rg (Mof []) mixed (by kernel_rfl) ?_; simp [hq, hσ, n1, n2, n3, n1', n2', n3', hm, hkx, fq, fm, fi, hlen, htk, hb, pMapUpdate, toV, pAppend, pBuildSlice, elemsOf, List.replicate, List.range, List.range.loop])
      | (refine PW.skip ?_; simp [hq, hσ, n1, n2, n3, n1', n2', n3', hm, hkx, fq, fm, fi, hlen, htk, hb, pMapUpdate, toV, pAppend, pBuildSlice, elemsOf, List.replicate, List.range, List.range.loop])
      | (refine PW.ret ?_; simp [hq, hσ, n1, n2, n3, n1', n2', n3', hm, hkx, fq, fm, fi, hlen, htk, hb, pMapUpdate, toV, pAppend, pBuildSlice, elemsOf, List.replicate, List.range, List.range.loop]; done)
      | (refine PW.ret ?_; simp [hq, hσ, n1, n2, n3, n1', n2', n3', hm, hkx, fq, fm, fi, hlen, htk, hb, pMapUpdate, toV, pAppend, pBuildSlice, elemsOf, List.replicate, List.range, List.range.loop])
      | (refine PW.exit ?_; simp [hq, hσ, n1, n2, n3, n1', n2', n3', hm, hkx, fq, fm, fi, hlen, htk, hb, pMapUpdate, toV, pAppend, pBuildSlice, elemsOf, List.replicate, List.range, List.range.loop])
      | (refine PW.condV ?_; simp [hq, hσ, n1, n2, n3, n1', n2', n3', hm, hkx, fq, fm, fi, hlen, htk, hb, pMapUpdate, toV, pAppend, pBuildSlice, elemsOf, List.replicate, List.range, List.range.loop])
      | (refine PW.block ?_)
      | (refine CallF.flat (by first | fail) (by simp) ?_; simp [hq, hσ, n1, n2, n3, n1', n2', n3', hm, hkx, fq, fm, fi, hlen, htk, hb, pMapUpdate, toV, pAppend, pBuildSlice, elemsOf, List.replicate, List.range, List.range.loop])
      | (refine And.intro ?_ ?_)
      | (with_reducible intro _)

    rename_i jj B hB
    by_cases e1 : jj = im
    · subst e1; simpa [n1, n2, n3, n1', n2', n3', fm] using hB
    by_cases e2 : jj = q
    · subst e2; simpa [n1, n2, n3, n1', n2', n3', fq] using hB
    by_cases e3 : jj = 7 :: 2 :: id
    · subst e3; simpa [fm, fq] using hB
    simp only [e1, e2, e3, if_false] at hB ⊢
    by_cases e4 : jj = ii
    · simp [e4] at hB
    simp only [e4, if_false] at hB
    have g1 : jj ≠ 6 :: 2 :: id := by
      rintro rfl
      rw [hfr (6 :: 2 :: id) ⟨[6, 2], rfl⟩] at hB
      cases hB
    have g2 : jj ≠ 2 :: 0 :: id := by
      rintro rfl
      rw [hfr (2 :: 0 :: id) ⟨[2, 0], rfl⟩] at hB
      cases hB
    simpa [g1, g2, e1, e4] using hB

theorem ix_append {l l' : List It} {k : Int} (h : k ∈ l.map (·.1)) : ix (l ++ l') k = ix l k := by
  induction l with
  | nil => simp at h
  | cons y r ih =>
    simp only [List.map_cons, List.mem_cons] at h
    simp only [List.cons_append, ix]
    by_cases hk : y.1 = k
    · simp [hk]
    · rw [if_neg hk, if_neg hk, ih (h.resolve_left fun e => hk e.symm)]
theorem ix_last {l : List It} {x : It} (h : x.1 ∉ l.map (·.1)) : ix (l ++ [x]) x.1 = l.length := by
  induction l with
  | nil => simp [ix]
  | cons y r ih =>
    simp only [List.map_cons, List.mem_cons, not_or] at h
    simp only [List.cons_append, ix, if_neg (Ne.symm h.1), ih h.2, List.length_cons]

theorem push_mk {mk : List (Int × Nat)} {clk : Nat} {l : List It} (h : MInv mk clk l) {x : It} (hx : x.1 ∉ l.map (·.1)) :
    MInv (mk ++ [(x.1, clk)]) (clk + 1) (l ++ [x]) ∧ ents mk l ++ [(.int .i64 x.1, .v (.int .i64 l.length), clk)] = ents (mk ++ [(x.1, clk)]) (l ++ [x]) := by
  refine ⟨⟨?_, ?_, ?_, ?_⟩, ?_⟩
  · rw [List.map_append]
    refine List.nodup_append.2 ⟨h.nodup, by simp, fun a ha b hb => ?_⟩
    simp at hb
    subst hb
    rintro rfl
    exact hx ha
  · simp only [List.map_append, List.map_cons, List.map_nil]
    exact h.perm.append_right _
  · rw [List.map_append]
    refine List.nodup_append.2 ⟨h.stamps, by simp, fun a ha b hb => ?_⟩
    simp at hb
    subst hb
    rintro rfl
    obtain ⟨e, he, hk⟩ := List.mem_map.1 ha
    have := h.lt e he
    omega
  · intro e he
    rcases List.mem_append.1 he with he | he
    · have := h.lt e he; omega
    · simp at he; subst he; exact Nat.lt_succ_self _
  · unfold ents entsF
    rw [List.map_append]
    congr 1
    · apply List.map_congr_left
      intro e he
      have hm : e.1 ∈ l.map (·.1) := h.perm.mem_iff.1 (List.mem_map_of_mem he)
      simp only [ix_append hm]
    · simp [ix_last hx]

theorem QS.push {σ : Sto} {q ii im : PM.Id} {it : PV} {rest : List (List PV)} {mk : List (Int × Nat)} {clk : Nat} {l : List It} (h : QS σ q ii im it rest mk clk l) (id : PM.Id) (hfr : ∀ j, id <:+ j → σ j = none) {x : It} (hx : x.1 ∉ l.map (·.1)) :
    QS (upd (upd (upd (upd σ ii none) (7 :: 2 :: id) (some (.cells ((l ++ [x]).map encI) true))) q (some (.cells [[.own (7 :: 2 :: id) 40 0 (l.length + 1), .mp im]] true))) im (some (.map (ents mk l ++ [(.int .i64 x.1, .v (.int .i64 l.length), clk)]) (clk + 1))))
      q (7 :: 2 :: id) im (.own (7 :: 2 :: id) 40 0 (l.length + 1)) [] (mk ++ [(x.1, clk)]) (clk + 1) (l ++ [x]) := by
  have fq := fresh_ne hfr h.hq
  have fm := fresh_ne hfr h.hm
  have n1 := h.ne1
  obtain ⟨h1, h2⟩ := push_mk h.minv hx
  refine ⟨by simp [n1], by simp [h2], h1, .inr ⟨by simp, by simp [fq, fm]⟩, by simp [fq], n1, by simp [fm]⟩

theorem QS.pop {σ : Sto} {q ii im : PM.Id} {it : PV} {rest : List (List PV)} {mk mk' : List (Int × Nat)} {clk : Nat} {l : List It} (h : QS σ q ii im it rest mk clk l) (h0 : 0 < l.length) (hmk : MInv mk' clk l.dropLast) :
    QS (upd (upd σ q (some (.cells [[.own ii 40 0 (l.length - 1), .mp im]] true))) im (some (.map (ents mk' l.dropLast) clk))) q ii im (.own ii 40 0 (l.length - 1)) (encI (l[l.length - 1]'(by omega)) :: rest) mk' clk l.dropLast := by
  obtain ⟨hit, hσ⟩ := h.own h0
  have n1 := h.ne
  have n2 := h.ne1
  have n3 := h.ne2
  have hl : l = l.dropLast ++ [l[l.length - 1]'(by omega)] := by
    have := List.dropLast_concat_getLast (l := l) (by intro e; subst e; simp at h0)
    rw [List.getLast_eq_getElem] at this
    exact this.symm
  refine ⟨by simp [n2], by simp, hmk, .inr ⟨by simp, ?_⟩, n1, n2, n3⟩
  simp only [upd_if, n3, Ne.symm n1, if_false]
  rw [hσ]
  congr 2
  conv => lhs; rw [hl]
  simp
end QT
end

section
set_option linter.unusedSimpArgs false
set_option linter.unusedVariables false
set_option linter.constructorNameAsVariable false
/- The heap of the library over the pile. Printed in part by a program. -/
open Go hiding Id
open Go.Proofs Go.PM
set_option linter.unusedSimpArgs false
set_option linter.unusedVariables false
namespace QT
attribute [local irreducible] PW FL FR FS FB FM FG CallF CallS PC PCS bindK condK

def lessG (l : List It) (i j : Nat) : Bool := match l[i]?, l[j]? with
  | some x, some y => decide (cmpI x y < 0)
  | _, _ => false
def swapG (l : List It) (i j : Nat) : List It := match l[i]?, l[j]? with
  | some x, some y => (l.set i y).set j x
  | _, _ => l
theorem lessG_eq {l : List It} {i j : Nat} (hi : i < l.length) (hj : j < l.length) : lessG l i j = decide (cmpI l[i] l[j] < 0) := by
  simp [lessG, hi, hj]
theorem swapG_eq {l : List It} {i j : Nat} (hi : i < l.length) (hj : j < l.length) : swapG l i j = swapL l i j hi hj := by
  simp [swapG, swapL, hi, hj]

/-- The child that goes up. -/
def kid (l : List It) (i n : Nat) : Nat := if 2 * i + 1 + 1 < n ∧ lessG l (2 * i + 1 + 1) (2 * i + 1) = true then 2 * i + 1 + 1 else 2 * i + 1

def downL : Nat → List It → Nat → Nat → List It × Nat
  | 0, l, i, _ => (l, i)
  | f + 1, l, i, n => if n ≤ 2 * i + 1 then (l, i) else if lessG l (kid l i n) i = true then downL f (swapG l i (kid l i n)) (kid l i n) n else (l, i)

theorem downL_stop {m : Nat} {l : List It} {i n : Nat} (h : n ≤ 2 * i + 1) : downL m l i n = (l, i) := by
  cases m <;> simp [downL, h]

theorem c40 {σ : Sto} {q ii im : PM.Id} {it : PV} {rest : List (List PV)} {mk : List (Int × Nat)} {clk : Nat} {l : List It} (h : QS σ q ii im it rest mk clk l) (id : PM.Id) {i0 n : Nat} (hi0 : i0 < l.length) (hn : n ≤ l.length) (hmax : l.length ≤ 100000) :
    PCS Try.prog id 40 [.iface 62 (.ptr q 0 0), .v (.int .i64 i0), .v (.int .i64 n)] σ (fun r σ' => r = .v (.bool (decide (i0 < (downL n l i0 n).2))) ∧ σ' = setL σ ii im (downL n l i0 n).1 rest mk clk) := by
  refine PCS.of Try.func40 rfl (by simp) ⟨_, _, rfl, rfl⟩ fun hfr => ?_
  show PW _ _ _ _ ⟨entry _, σ, 0⟩ _
  have h0 : l ≠ [] := by rintro rfl; simp at hi0
  have hself : setL σ ii im l rest mk clk = σ := by
    obtain ⟨_, hσ⟩ := h.own hi0
    funext j
    simp only [setL, upd_if]
    split
    · rename_i e; subst e; exact h.hm.symm
    · split
      · rename_i e; subst e; exact hσ.symm
      · rfl
  repeat' first
    | (refine PW.seq ?_)
    | (refine PW.rg (Mof []) mixed (by kernel_rfl) ?_; simp [])
    | (refine PW.skip ?_; simp)
    | (refine PW.ret ?_; simp []; done)
    | (refine PW.ret ?_; simp [])
    | (refine PW.exit ?_; simp)
    | (refine PW.condV ?_; simp [])
    | (refine PW.block ?_)

    | (refine And.intro ?_ ?_)
    | (with_reducible intro _)

  refine PW.loop (fun m s => ∃ li i, li.Perm l ∧ n ≤ m + i ∧ i < l.length ∧ s.σ = setL σ ii im li rest mk clk ∧ s.t 7 = .v (.int .i64 (i : Nat)) ∧ s.t 0 = .iface 62 (.ptr q 0 0) ∧ s.t 1 = .v (.int .i64 i0) ∧ s.t 2 = .v (.int .i64 n) ∧ downL m li i n = downL n l i0 n) n ?_ ?_
  · exact ⟨l, i0, List.Perm.refl _, by omega, hi0, by simp [hself], by simp, by simp, by simp, by simp, rfl⟩
  rintro m ⟨t, s1, c⟩ ⟨li, i, hp, hm, hi, hσ, h7, ht0, h1, h2, hd⟩
  simp only at hσ h7 ht0 h1 h2
  subst hσ
  have hqs := h.setL hp h0
  have hlen := hp.length_eq
  have hw1 : IntKind.i64.wrap (IntKind.i64.wrap (2 * (i : Int)) + 1) = ((2 * i + 1 : Nat) : Int) := by
    rw [wrap64 (n := 2 * (i : Int)) (by omega) (by omega), wrap64 (by omega) (by omega)]; omega
  generalize ha : 2 * i + 1 = a at hw1
  have hw2 : IntKind.i64.wrap ((a : Int) + 1) = ((a + 1 : Nat) : Int) := by
    rw [wrap64 (by omega) (by omega)]; omega
  generalize hb : a + 1 = b at hw2
  by_cases c1 : n ≤ a
  · rw [downL_stop (by omega)] at hd
    rw [← hd]
    repeat' first
      | (refine PW.seq ?_)
      | (refine PW.rg (Mof []) mixed (by kernel_rfl) ?_; simp [h7, ht0, h1, h2, hw1, hw2, c1])
      | (refine PW.skip ?_; simp)
      | (refine PW.ret ?_; simp [h7, ht0, h1, h2, hw1, hw2, c1]; done)
      | (refine PW.ret ?_; simp [h7, ht0, h1, h2, hw1, hw2, c1])
      | (refine PW.exit ?_; simp)
      | (refine PW.condV ?_; simp [h7, ht0, h1, h2, hw1, hw2, c1])
      | (refine PW.block ?_)

      | (refine And.intro ?_ ?_)
      | (with_reducible intro _)

    all_goals trace_state
  have c1' : a < n := by omega
  obtain ⟨m', rfl⟩ : ∃ m', m = m' + 1 := ⟨m - 1, by omega⟩
  simp only [downL, ha, if_neg c1] at hd
  by_cases c2 : b < n
  · by_cases c3 : cmpI (li[b]'(by omega)) (li[a]'(by omega)) < 0
    · have hkid : kid li i n = b := by
        unfold kid
        rw [ha, hb, lessG_eq (by omega) (by omega), if_pos ⟨c2, by simpa using c3⟩]
      rw [hkid] at hd
      by_cases c4 : cmpI (li[b]'(by omega)) (li[i]'(by omega)) < 0
      · rw [lessG_eq (by omega) (by omega), if_pos (by simpa using c4), swapG_eq (by omega) (by omega)] at hd
        repeat' first
          | (refine PW.seq ?_)
          | (refine PW.rg (Mof []) mixed (by kernel_rfl) ?_; simp [h7, ht0, h1, h2, hw1, hw2, c1, c2, c3, c4, setL_setL])
          | (refine PW.skip ?_; simp)
          | (refine PW.ret ?_; simp [h7, ht0, h1, h2, hw1, hw2, c1, c2, c3, c4, setL_setL]; done)
          | (refine PW.ret ?_; simp [h7, ht0, h1, h2, hw1, hw2, c1, c2, c3, c4, setL_setL])
          | (refine PW.exit ?_; simp)
          | (refine PW.condV ?_; simp [h7, ht0, h1, h2, hw1, hw2, c1, c2, c3, c4, setL_setL])
          | (refine PW.block ?_)
          | (refine CallS.of (c76 hqs _ (by omega) (by omega)) ?_; rintro _ _ ⟨rfl, rfl⟩; simp [h7, ht0, h1, h2, hw1, hw2, c1, c2, c3, c4, setL_setL])
          | (refine CallS.of (c79 hqs _ (by omega) (by omega)) ?_; rintro _ _ ⟨rfl, rfl⟩; simp [h7, ht0, h1, h2, hw1, hw2, c1, c2, c3, c4, setL_setL])
          | (refine And.intro ?_ ?_)
          | (with_reducible intro _)

        all_goals first | (exfalso; omega) | (refine ⟨m', by omega, _, (swapL_perm (by omega) (by omega)).trans hp, b, by omega, by omega, rfl, rfl, hd⟩)
      · rw [lessG_eq (by omega) (by omega), if_neg (by simpa using c4)] at hd
        rw [← hd]
        repeat' first
          | (refine PW.seq ?_)
          | (refine PW.rg (Mof []) mixed (by kernel_rfl) ?_; simp [h7, ht0, h1, h2, hw1, hw2, c1, c2, c3, c4])
          | (refine PW.skip ?_; simp)
          | (refine PW.ret ?_; simp [h7, ht0, h1, h2, hw1, hw2, c1, c2, c3, c4]; done)
          | (refine PW.ret ?_; simp [h7, ht0, h1, h2, hw1, hw2, c1, c2, c3, c4])
          | (refine PW.exit ?_; simp)
          | (refine PW.condV ?_; simp [h7, ht0, h1, h2, hw1, hw2, c1, c2, c3, c4])
          | (refine PW.block ?_)
          | (refine CallS.of (c76 hqs _ (by omega) (by omega)) ?_; rintro _ _ ⟨rfl, rfl⟩; simp [h7, ht0, h1, h2, hw1, hw2, c1, c2, c3, c4])
          | (refine And.intro ?_ ?_)
          | (with_reducible intro _)

    · have hkid : kid li i n = a := by
        unfold kid
        rw [ha, hb, lessG_eq (by omega) (by omega), if_neg (fun e => c3 (by simpa using e.2))]
      rw [hkid] at hd
      by_cases c4 : cmpI (li[a]'(by omega)) (li[i]'(by omega)) < 0
      · rw [lessG_eq (by omega) (by omega), if_pos (by simpa using c4), swapG_eq (by omega) (by omega)] at hd
        repeat' first
          | (refine PW.seq ?_)
          | (refine PW.rg (Mof []) mixed (by kernel_rfl) ?_; simp [h7, ht0, h1, h2, hw1, hw2, c1, c2, c3, c4, setL_setL])
          | (refine PW.skip ?_; simp)
          | (refine PW.ret ?_; simp [h7, ht0, h1, h2, hw1, hw2, c1, c2, c3, c4, setL_setL]; done)
          | (refine PW.ret ?_; simp [h7, ht0, h1, h2, hw1, hw2, c1, c2, c3, c4, setL_setL])
          | (refine PW.exit ?_; simp)
          | (refine PW.condV ?_; simp [h7, ht0, h1, h2, hw1, hw2, c1, c2, c3, c4, setL_setL])
          | (refine PW.block ?_)
          | (refine CallS.of (c76 hqs _ (by omega) (by omega)) ?_; rintro _ _ ⟨rfl, rfl⟩; simp [h7, ht0, h1, h2, hw1, hw2, c1, c2, c3, c4, setL_setL])
          | (refine CallS.of (c79 hqs _ (by omega) (by omega)) ?_; rintro _ _ ⟨rfl, rfl⟩; simp [h7, ht0, h1, h2, hw1, hw2, c1, c2, c3, c4, setL_setL])
          | (refine And.intro ?_ ?_)
          | (with_reducible intro _)

        all_goals first | (exfalso; omega) | (refine ⟨m', by omega, _, (swapL_perm (by omega) (by omega)).trans hp, a, by omega, by omega, rfl, rfl, hd⟩)
      · rw [lessG_eq (by omega) (by omega), if_neg (by simpa using c4)] at hd
        rw [← hd]
        repeat' first
          | (refine PW.seq ?_)
          | (refine PW.rg (Mof []) mixed (by kernel_rfl) ?_; simp [h7, ht0, h1, h2, hw1, hw2, c1, c2, c3, c4])
          | (refine PW.skip ?_; simp)
          | (refine PW.ret ?_; simp [h7, ht0, h1, h2, hw1, hw2, c1, c2, c3, c4]; done)
          | (refine PW.ret ?_; simp [h7, ht0, h1, h2, hw1, hw2, c1, c2, c3, c4])
          | (refine PW.exit ?_; simp)
          | (refine PW.condV ?_; simp [h7, ht0, h1, h2, hw1, hw2, c1, c2, c3, c4])
          | (refine PW.block ?_)
          | (refine CallS.of (c76 hqs _ (by omega) (by omega)) ?_; rintro _ _ ⟨rfl, rfl⟩; simp [h7, ht0, h1, h2, hw1, hw2, c1, c2, c3, c4])
          | (refine And.intro ?_ ?_)
          | (with_reducible intro _)

  · have hkid : kid li i n = a := by
      unfold kid
      rw [ha, hb, if_neg (fun e => c2 e.1)]
    rw [hkid] at hd
    by_cases c4 : cmpI (li[a]'(by omega)) (li[i]'(by omega)) < 0
    · rw [lessG_eq (by omega) (by omega), if_pos (by simpa using c4), swapG_eq (by omega) (by omega)] at hd
      repeat' first
        | (refine PW.seq ?_)
        | (refine PW.rg (Mof []) mixed (by kernel_rfl) ?_; simp [h7, ht0, h1, h2, hw1, hw2, c1, c2, c4, setL_setL])
        | (refine PW.skip ?_; simp)
        | (refine PW.ret ?_; simp [h7, ht0, h1, h2, hw1, hw2, c1, c2, c4, setL_setL]; done)
        | (refine PW.ret ?_; simp [h7, ht0, h1, h2, hw1, hw2, c1, c2, c4, setL_setL])
        | (refine PW.exit ?_; simp)
        | (refine PW.condV ?_; simp [h7, ht0, h1, h2, hw1, hw2, c1, c2, c4, setL_setL])
        | (refine PW.block ?_)
        | (refine CallS.of (c76 hqs _ (by omega) (by omega)) ?_; rintro _ _ ⟨rfl, rfl⟩; simp [h7, ht0, h1, h2, hw1, hw2, c1, c2, c4, setL_setL])
        | (refine CallS.of (c79 hqs _ (by omega) (by omega)) ?_; rintro _ _ ⟨rfl, rfl⟩; simp [h7, ht0, h1, h2, hw1, hw2, c1, c2, c4, setL_setL])
        | (refine And.intro ?_ ?_)
        | (with_reducible intro _)

      all_goals first | (exfalso; omega) | (refine ⟨m', by omega, _, (swapL_perm (by omega) (by omega)).trans hp, a, by omega, by omega, rfl, rfl, hd⟩)
    · rw [lessG_eq (by omega) (by omega), if_neg (by simpa using c4)] at hd
      rw [← hd]
      repeat' first
        | (refine PW.seq ?_)
        | (refine PW.rg (Mof []) mixed (by kernel_rfl) ?_; simp [h7, ht0, h1, h2, hw1, hw2, c1, c2, c4])
        | (refine PW.skip ?_; simp)
        | (refine PW.ret ?_; simp [h7, ht0, h1, h2, hw1, hw2, c1, c2, c4]; done)
        | (refine PW.ret ?_; simp [h7, ht0, h1, h2, hw1, hw2, c1, c2, c4])
        | (refine PW.exit ?_; simp)
        | (refine PW.condV ?_; simp [h7, ht0, h1, h2, hw1, hw2, c1, c2, c4])
        | (refine PW.block ?_)
        | (refine CallS.of (c76 hqs _ (by omega) (by omega)) ?_; rintro _ _ ⟨rfl, rfl⟩; simp [h7, ht0, h1, h2, hw1, hw2, c1, c2, c4])
        | (refine And.intro ?_ ?_)
        | (with_reducible intro _)

end QT
end

section
set_option linter.unusedSimpArgs false
set_option linter.unusedVariables false
set_option linter.constructorNameAsVariable false
/- The heap of the library over the pile: up, Push, Pop, Remove, Fix. Printed in part by a program. -/
open Go hiding Id
open Go.Proofs Go.PM
set_option linter.unusedSimpArgs false
set_option linter.unusedVariables false
namespace QT
attribute [local irreducible] PW FL FR FS FB FM FG CallF CallS PC PCS bindK condK

theorem QS.self {σ : Sto} {q ii im : PM.Id} {it : PV} {rest : List (List PV)} {mk : List (Int × Nat)} {clk : Nat} {l : List It} (h : QS σ q ii im it rest mk clk l) (h0 : 0 < l.length) : QT.setL σ ii im l rest mk clk = σ := by
  obtain ⟨_, hσ⟩ := h.own h0
  funext j
  simp only [QT.setL, upd_if]
  split
  · rename_i e; subst e; exact h.hm.symm
  · split
    · rename_i e; subst e; exact hσ.symm
    · rfl

def upL : Nat → List It → Nat → List It
  | 0, l, _ => l
  | f + 1, l, j => if (j - 1) / 2 = j then l else if lessG l j ((j - 1) / 2) = true then upL f (swapG l ((j - 1) / 2) j) ((j - 1) / 2) else l

theorem c39 {σ : Sto} {q ii im : PM.Id} {it : PV} {rest : List (List PV)} {mk : List (Int × Nat)} {clk : Nat} {l : List It} (h : QS σ q ii im it rest mk clk l) (id : PM.Id) {j0 : Nat} (hj0 : j0 < l.length) (hmax : l.length ≤ 100001) :
    PCS Try.prog id 39 [.iface 62 (.ptr q 0 0), .v (.int .i64 j0)] σ (fun r σ' => r = .tup [] ∧ σ' = setL σ ii im (upL (j0 + 1) l j0) rest mk clk) := by
  refine PCS.of Try.func39 rfl (by simp) ⟨_, _, rfl, rfl⟩ fun hfr => ?_
  show PW _ _ _ _ ⟨entry _, σ, 0⟩ _
  have h0 : l ≠ [] := by rintro rfl; simp at hj0
  have hself := h.self (by omega)
  obtain ⟨R, hR⟩ : ∃ R, upL (j0 + 1) l j0 = R := ⟨_, rfl⟩
  rw [hR]
  refine PW.block ?_
  refine PW.loop (fun m s => ∃ li j, li.Perm l ∧ j < m ∧ j < l.length ∧ s.σ = setL σ ii im li rest mk clk ∧ s.t 1 = .v (.int .i64 (j : Nat)) ∧ s.t 0 = .iface 62 (.ptr q 0 0) ∧ upL m li j = R) (j0 + 1) ?_ ?_
  · exact ⟨l, j0, List.Perm.refl _, by omega, hj0, by simp [hself], by simp, by simp, hR⟩
  rintro m ⟨t, s1, c⟩ ⟨li, j, hp, hm, hj, hσ, h1, ht0, hd⟩
  simp only at hσ h1 ht0
  subst hσ
  have hqs := h.setL hp h0
  have hlen := hp.length_eq
  obtain ⟨m', rfl⟩ : ∃ m', m = m' + 1 := ⟨m - 1, by omega⟩
  have hw : IntKind.i64.wrap ((IntKind.i64.wrap ((j : Int) - 1)).tdiv 2) = (((j - 1) / 2 : Nat) : Int) := by
    rw [wrap64 (n := (j : Int) - 1) (by omega) (by omega)]
    by_cases hj0 : j = 0
    · subst hj0; decide
    · have : ((j : Int) - 1) = ((j - 1 : Nat) : Int) := by omega
      rw [this]
      have h2 : ((j - 1 : Nat) : Int).tdiv 2 = (((j - 1) / 2 : Nat) : Int) := rfl
      rw [h2, wrap64 (by omega) (by omega)]
  simp only [upL] at hd
  generalize hi : (j - 1) / 2 = i at hw hd
  by_cases c1 : i = j
  · rw [if_pos c1] at hd
    rw [← hd]
    repeat' first
      | (refine PW.seq ?_)
      | (refine PW.rg (Mof []) mixed (by kernel_rfl) ?_; simp [h1, ht0, hw, c1])
      | (refine PW.skip ?_; simp)
      | (refine PW.ret ?_; simp [h1, ht0, hw, c1]; done)
      | (refine PW.ret ?_; simp [h1, ht0, hw, c1])
      | (refine PW.exit ?_; simp)
      | (refine PW.condV ?_; simp [h1, ht0, hw, c1])
      | (refine PW.block ?_)

      | (refine And.intro ?_ ?_)
      | (with_reducible intro _)

  rw [if_neg c1] at hd
  have c1' : ¬ ((i : Int) = (j : Int)) := by omega
  by_cases c2 : cmpI (li[j]'(by omega)) (li[i]'(by omega)) < 0
  · rw [lessG_eq (by omega) (by omega), if_pos (by simpa using c2), swapG_eq (by omega) (by omega)] at hd
    repeat' first
      | (refine PW.seq ?_)
      | (refine PW.rg (Mof []) mixed (by kernel_rfl) ?_; simp [h1, ht0, hw, c1, c1', c2, setL_setL])
      | (refine PW.skip ?_; simp)
      | (refine PW.ret ?_; simp [h1, ht0, hw, c1, c1', c2, setL_setL]; done)
      | (refine PW.ret ?_; simp [h1, ht0, hw, c1, c1', c2, setL_setL])
      | (refine PW.exit ?_; simp)
      | (refine PW.condV ?_; simp [h1, ht0, hw, c1, c1', c2, setL_setL])
      | (refine PW.block ?_)
      | (refine CallS.of (c76 hqs _ (by omega) (by omega)) ?_; rintro _ _ ⟨rfl, rfl⟩; simp [h1, ht0, hw, c1, c1', c2, setL_setL])
      | (refine CallS.of (c79 hqs _ (by omega) (by omega)) ?_; rintro _ _ ⟨rfl, rfl⟩; simp [h1, ht0, hw, c1, c1', c2, setL_setL])
      | (refine And.intro ?_ ?_)
      | (with_reducible intro _)

    all_goals first | (exfalso; omega) | (refine ⟨m', by omega, _, (swapL_perm (by omega) (by omega)).trans hp, i, by omega, by omega, rfl, rfl, hd⟩)
  · rw [lessG_eq (by omega) (by omega), if_neg (by simpa using c2)] at hd
    rw [← hd]
    repeat' first
      | (refine PW.seq ?_)
      | (refine PW.rg (Mof []) mixed (by kernel_rfl) ?_; simp [h1, ht0, hw, c1, c1', c2])
      | (refine PW.skip ?_; simp)
      | (refine PW.ret ?_; simp [h1, ht0, hw, c1, c1', c2]; done)
      | (refine PW.ret ?_; simp [h1, ht0, hw, c1, c1', c2])
      | (refine PW.exit ?_; simp)
      | (refine PW.condV ?_; simp [h1, ht0, hw, c1, c1', c2])
      | (refine PW.block ?_)
      | (refine CallS.of (c76 hqs _ (by omega) (by omega)) ?_; rintro _ _ ⟨rfl, rfl⟩; simp [h1, ht0, hw, c1, c1', c2])
      | (refine And.intro ?_ ?_)
      | (with_reducible intro _)

end QT
end

section
set_option linter.unusedSimpArgs false
set_option linter.unusedVariables false
set_option linter.constructorNameAsVariable false
/- The heap of the library over the pile: Push, Pop, Remove, Fix. Printed in part by a program. -/
open Go hiding Id
open Go.Proofs Go.PM
set_option linter.unusedSimpArgs false
set_option linter.unusedVariables false
namespace QT
attribute [local irreducible] PW FL FR FS FB FM FG CallF CallS PC PCS bindK condK

theorem swapG_perm (l : List It) (i j : Nat) : (swapG l i j).Perm l := by
  unfold swapG
  split
  · rename_i x y hx hy
    obtain ⟨hi, rfl⟩ := List.getElem?_eq_some_iff.1 hx
    obtain ⟨hj, rfl⟩ := List.getElem?_eq_some_iff.1 hy
    exact List.set_set_perm hi hj
  · exact List.Perm.refl _
theorem downL_perm : ∀ (m : Nat) (l : List It) (i n : Nat), (downL m l i n).1.Perm l
  | 0, l, i, n => List.Perm.refl _
  | m + 1, l, i, n => by
    unfold downL
    split
    · exact List.Perm.refl _
    · split
      · exact (downL_perm m _ _ _).trans (swapG_perm _ _ _)
      · exact List.Perm.refl _
theorem upL_perm : ∀ (m : Nat) (l : List It) (j : Nat), (upL m l j).Perm l
  | 0, l, j => List.Perm.refl _
  | m + 1, l, j => by
    unfold upL
    split
    · exact List.Perm.refl _
    · split
      · exact (upL_perm m _ _).trans (swapG_perm _ _ _)
      · exact List.Perm.refl _

/-- The store behind the pile's Push. -/
def pushS (σ : Sto) (q ii im id : PM.Id) (mk : List (Int × Nat)) (clk : Nat) (l : List It) (x : It) : Sto :=
  upd (upd (upd (upd σ ii none) (7 :: 2 :: id) (some (.cells ((l ++ [x]).map encI) true))) q (some (.cells [[.own (7 :: 2 :: id) 40 0 (l.length + 1), .mp im]] true))) im (some (.map (ents mk l ++ [(.int .i64 x.1, .v (.int .i64 l.length), clk)]) (clk + 1)))

theorem fresh_sub {σ : Sto} {id : PM.Id} (hfr : ∀ j, id <:+ j → σ j = none) (k c : Nat) : ∀ j, (k :: c :: id) <:+ j → σ j = none := fun j hj => hfr j (suffix_tail2 hj)

theorem c28 {σ : Sto} {q ii im : PM.Id} {it : PV} {rest : List (List PV)} {mk : List (Int × Nat)} {clk : Nat} {l : List It} (h : QS σ q ii im it rest mk clk l) (id : PM.Id) (x : It) (hx : x.1 ∉ l.map (·.1)) (hmax : l.length ≤ 100000) :
    PCS Try.prog id 28 [.iface 62 (.ptr q 0 0), .iface 40 (.agg (encI x))] σ (fun r σ' => r = .tup [] ∧ σ' = setL (pushS σ q ii im (2 :: 0 :: id) mk clk l x) (7 :: 2 :: 2 :: 0 :: id) im (upL (l.length + 1) (l ++ [x]) l.length) [] (mk ++ [(x.1, clk)]) (clk + 1)) := by
  refine PCS.of Try.func28 rfl (by simp) ⟨_, _, rfl, rfl⟩ fun hfr => ?_
  show PW _ _ _ _ ⟨entry _, σ, 0⟩ _
  have hq1 : QS (pushS σ q ii im (2 :: 0 :: id) mk clk l x) _ _ _ _ _ _ _ _ := h.push (2 :: 0 :: id) (fresh_sub hfr 2 0) hx
  have hw : IntKind.i64.wrap (l.length : Int) = ((l.length : Nat) : Int) := wrap64 (by omega) (by omega)
  have c1 := c78 h (2 :: 0 :: id) x hx hmax
  have c2 := c75 hq1 (2 :: 1 :: id)
  have c3 := c39 hq1 (4 :: 1 :: id) (j0 := l.length) (by simp) (by simp; omega)
  simp only [List.length_append, List.length_cons, List.length_nil] at c2
  change PCS _ _ _ _ _ (fun r σ' => r = _ ∧ σ' = pushS σ q ii im (2 :: 0 :: id) mk clk l x) at c1
  repeat' first
    | (refine PW.seq ?_)
    | (refine PW.rg (Mof []) mixed (by kernel_rfl) ?_; simp [hw])
    | (refine PW.skip ?_; simp)
    | (refine PW.ret ?_; simp [hw]; done)
    | (refine PW.ret ?_; simp [hw])
    | (refine PW.exit ?_; simp)
    | (refine PW.condV ?_; simp [hw])
    | (refine PW.block ?_)
    | (refine CallS.of (c1) ?_; rintro _ _ ⟨rfl, rfl⟩; simp [hw])
    | (refine CallS.of (c2) ?_; rintro _ _ ⟨rfl, rfl⟩; simp [hw])
    | (refine CallS.of (c3) ?_; rintro _ _ ⟨rfl, rfl⟩; simp [hw])
    | (refine And.intro ?_ ?_)
    | (with_reducible intro _)


/-- The items as they lie when the first is about to be taken out. -/
def popL (l : List It) : List It := (downL (l.length - 1) (swapG l 0 (l.length - 1)) 0 (l.length - 1)).1
theorem popL_perm (l : List It) : (popL l).Perm l := (downL_perm _ _ _ _).trans (swapG_perm _ _ _)
theorem popL_len (l : List It) : (popL l).length = l.length := (popL_perm l).length_eq

theorem c30 {σ : Sto} {q ii im : PM.Id} {it : PV} {rest : List (List PV)} {mk : List (Int × Nat)} {clk : Nat} {l : List It} (h : QS σ q ii im it rest mk clk l) (id : PM.Id) (h0 : 0 < l.length) (hmax : l.length ≤ 100000) :
    ∃ mk', MInv mk' clk (popL l).dropLast ∧ PCS Try.prog id 30 [.iface 62 (.ptr q 0 0)] σ (fun r σ' => r = .iface 40 (.agg (encI ((popL l)[(popL l).length - 1]'(by rw [popL_len]; omega)))) ∧
      σ' = upd (upd (setL σ ii im (popL l) rest mk clk) q (some (.cells [[.own ii 40 0 ((popL l).length - 1), .mp im]] true))) im (some (.map (ents mk' (popL l).dropLast) clk))) := by
  have hne : l ≠ [] := by rintro rfl; simp at h0
  have hq3 := h.setL (popL_perm l) hne
  obtain ⟨mk', hmk', hpop⟩ := c77 hq3 (1 :: 4 :: id) (by rw [popL_len]; exact h0) (by rw [popL_len]; exact hmax)
  refine ⟨mk', hmk', ?_⟩
  refine PCS.of Try.func30 rfl (by simp) ⟨_, _, rfl, rfl⟩ fun hfr => ?_
  show PW _ _ _ _ ⟨entry _, σ, 0⟩ _
  have hn : l.length - 1 < l.length := by omega
  have c1 := c75 h (1 :: 1 :: id)
  have c2 := c79 h (2 :: 2 :: id) (i := 0) (j := l.length - 1) h0 hn
  have hq2 := h.setL (swapL_perm h0 hn) hne
  have c3 := c40 hq2 (2 :: 3 :: id) (i0 := 0) (n := l.length - 1) (by rw [swapL_len]; exact h0) (by rw [swapL_len]; omega) (by rw [swapL_len]; exact hmax)
  simp only [setL_setL] at c3
  rw [← swapG_eq] at c3 c2
  have hw : IntKind.i64.wrap ((l.length : Int) - 1) = ((l.length - 1 : Nat) : Int) := by
    rw [wrap64 (by omega) (by omega)]; omega
  have hpl : (downL (l.length - 1) (swapG l 0 (l.length - 1)) 0 (l.length - 1)).1 = popL l := rfl
  rw [hpl] at c3
  have e0 : ((0 : Nat) : Int) = 0 := rfl
  rw [e0] at c2 c3
  repeat' first
    | (refine PW.seq ?_)
    | (refine PW.rg (Mof []) mixed (by kernel_rfl) ?_; simp [hw])
    | (refine PW.skip ?_; simp)
    | (refine PW.ret ?_; simp [hw]; done)
    | (refine PW.ret ?_; simp [hw])
    | (refine PW.exit ?_; simp)
    | (refine PW.condV ?_; simp [hw])
    | (refine PW.block ?_)
    | (refine CallS.of (c1) ?_; rintro _ _ ⟨rfl, rfl⟩; simp [hw])
    | (refine CallS.of (c2) ?_; rintro _ _ ⟨rfl, rfl⟩; simp [hw])
    | (refine CallS.of (c3) ?_; rintro _ _ ⟨rfl, rfl⟩; simp [hw])
    | (refine CallS.of (hpop) ?_; rintro _ _ ⟨rfl, rfl⟩; simp [hw])
    | (refine And.intro ?_ ?_)
    | (with_reducible intro _)


/-- Another key for an item: its place, then down, or up. -/
theorem c31 {σ : Sto} {q ii im : PM.Id} {it : PV} {rest : List (List PV)} {mk : List (Int × Nat)} {clk : Nat} {l : List It} (h : QS σ q ii im it rest mk clk l) (id : PM.Id) {i : Nat} (hi : i < l.length) (hmax : l.length ≤ 100000) :
    PCS Try.prog id 31 [.iface 62 (.ptr q 0 0), .v (.int .i64 i)] σ (fun r σ' => r = .tup [] ∧ σ' = setL σ ii im (if i < (downL l.length l i l.length).2 then (downL l.length l i l.length).1 else upL (i + 1) (downL l.length l i l.length).1 i) rest mk clk) := by
  have hne : l ≠ [] := by rintro rfl; simp at hi
  refine PCS.of Try.func31 rfl (by simp) ⟨_, _, rfl, rfl⟩ fun hfr => ?_
  show PW _ _ _ _ ⟨entry _, σ, 0⟩ _
  have c1 := c75 h (3 :: 0 :: id)
  have c2 := c40 h (4 :: 0 :: id) (i0 := i) (n := l.length) hi (Nat.le_refl _) hmax
  have hp := downL_perm l.length l i l.length
  have hq2 := h.setL hp hne
  have c3 := c39 hq2 (2 :: 1 :: id) (j0 := i) (by rw [hp.length_eq]; exact hi) (by rw [hp.length_eq]; omega)
  rw [setL_setL] at c3
  by_cases hc : i < (downL l.length l i l.length).2
  · rw [if_pos hc]
    repeat' first
      | (refine PW.seq ?_)
      | (refine PW.rg (Mof []) mixed (by kernel_rfl) ?_; simp [hc])
      | (refine PW.skip ?_; simp)
      | (refine PW.ret ?_; simp [hc]; done)
      | (refine PW.ret ?_; simp [hc])
      | (refine PW.exit ?_; simp)
      | (refine PW.condV ?_; simp [hc])
      | (refine PW.block ?_)
      | (refine CallS.of (c1) ?_; rintro _ _ ⟨rfl, rfl⟩; simp [hc])
      | (refine CallS.of (c2) ?_; rintro _ _ ⟨rfl, rfl⟩; simp [hc])
      | (refine CallS.of (c3) ?_; rintro _ _ ⟨rfl, rfl⟩; simp [hc])
      | (refine And.intro ?_ ?_)
      | (with_reducible intro _)

  · rw [if_neg hc]
    repeat' first
      | (refine PW.seq ?_)
      | (refine PW.rg (Mof []) mixed (by kernel_rfl) ?_; simp [hc])
      | (refine PW.skip ?_; simp)
      | (refine PW.ret ?_; simp [hc]; done)
      | (refine PW.ret ?_; simp [hc])
      | (refine PW.exit ?_; simp)
      | (refine PW.condV ?_; simp [hc])
      | (refine PW.block ?_)
      | (refine CallS.of (c1) ?_; rintro _ _ ⟨rfl, rfl⟩; simp [hc])
      | (refine CallS.of (c2) ?_; rintro _ _ ⟨rfl, rfl⟩; simp [hc])
      | (refine CallS.of (c3) ?_; rintro _ _ ⟨rfl, rfl⟩; simp [hc])
      | (refine And.intro ?_ ?_)
      | (with_reducible intro _)

end QT
end

section
set_option linter.unusedSimpArgs false
set_option linter.unusedVariables false
set_option linter.constructorNameAsVariable false
/- The heap of the library over the pile: Remove. Printed in part by a program. -/
open Go hiding Id
open Go.Proofs Go.PM
set_option linter.unusedSimpArgs false
set_option linter.unusedVariables false
namespace QT
attribute [local irreducible] PW FL FR FS FB FM FG CallF CallS PC PCS bindK condK

/-- The items as they lie when the one at i is about to be taken out. -/
def rmL (l : List It) (i : Nat) : List It :=
  if l.length - 1 = i then l else
    if i < (downL (l.length - 1) (swapG l i (l.length - 1)) i (l.length - 1)).2 then (downL (l.length - 1) (swapG l i (l.length - 1)) i (l.length - 1)).1
    else upL (i + 1) (downL (l.length - 1) (swapG l i (l.length - 1)) i (l.length - 1)).1 i
theorem rmL_perm (l : List It) (i : Nat) : (rmL l i).Perm l := by
  unfold rmL
  split
  · exact List.Perm.refl _
  · split
    · exact (downL_perm _ _ _ _).trans (swapG_perm _ _ _)
    · exact (upL_perm _ _ _).trans ((downL_perm _ _ _ _).trans (swapG_perm _ _ _))
theorem rmL_len (l : List It) (i : Nat) : (rmL l i).length = l.length := (rmL_perm l i).length_eq

theorem c29 {σ : Sto} {q ii im : PM.Id} {it : PV} {rest : List (List PV)} {mk : List (Int × Nat)} {clk : Nat} {l : List It} (h : QS σ q ii im it rest mk clk l) (id : PM.Id) {i : Nat} (hi : i < l.length) (hmax : l.length ≤ 100000) :
    ∃ mk' c', MInv mk' clk (rmL l i).dropLast ∧ PCS Try.prog id 29 [.iface 62 (.ptr q 0 0), .v (.int .i64 i)] σ (fun r σ' => r = .iface 40 (.agg (encI ((rmL l i)[(rmL l i).length - 1]'(by rw [rmL_len]; omega)))) ∧
      σ' = upd (upd (setL σ ii im (rmL l i) rest mk clk) q (some (.cells [[.own ii 40 0 ((rmL l i).length - 1), .mp im]] true))) im (some (.map (ents mk' (rmL l i).dropLast) clk))) ∧ c' = mk' := by
  have hne : l ≠ [] := by rintro rfl; simp at hi
  have hn : l.length - 1 < l.length := by omega
  have hw : IntKind.i64.wrap ((l.length : Int) - 1) = ((l.length - 1 : Nat) : Int) := by
    rw [wrap64 (by omega) (by omega)]; omega
  have c1 := c75 h (1 :: 1 :: id)
  by_cases e1 : l.length - 1 = i
  · have hr : rmL l i = l := by unfold rmL; rw [if_pos e1]
    have hcl : ((l.length - 1 : Nat) : Int) = (i : Int) := by omega
    have hself := h.self (by omega)
    have hq3 := h.setL (rmL_perm l i) hne
    have hs3 : setL σ ii im (rmL l i) rest mk clk = σ := by rw [hr, hself]
    obtain ⟨mk', hmk', hpop⟩ := c77 hq3 (1 :: 3 :: id) (by rw [rmL_len]; omega) (by rw [rmL_len]; exact hmax)
    refine ⟨mk', mk', hmk', ?_, rfl⟩
    refine PCS.of Try.func29 rfl (by simp) ⟨_, _, rfl, rfl⟩ fun hfr => ?_
    show PW _ _ _ _ ⟨entry _, σ, 0⟩ _
    have hpop' := hpop
    rw [hs3] at hpop'
    rw [hs3]
    repeat' first
      | (refine PW.seq ?_)
      | (refine PW.rg (Mof []) mixed (by kernel_rfl) ?_; simp [hw, hcl, e1])
      | (refine PW.skip ?_; simp)
      | (refine PW.ret ?_; simp [hw, hcl, e1]; done)
      | (refine PW.ret ?_; simp [hw, hcl, e1])
      | (refine PW.exit ?_; simp)
      | (refine PW.condV ?_; simp [hw, hcl, e1])
      | (refine PW.block ?_)
      | (refine CallS.of (c1) ?_; rintro _ _ ⟨rfl, rfl⟩; simp [hw, hcl, e1])
      | (refine CallS.of (hpop') ?_; rintro _ _ ⟨rfl, rfl⟩; simp [hw, hcl, e1])
      | (refine And.intro ?_ ?_)
      | (with_reducible intro _)

  · have hcl : ¬ ((l.length - 1 : Nat) : Int) = (i : Int) := by omega
    have hq3 := h.setL (rmL_perm l i) hne
    have c2 := c79 h (3 :: 3 :: id) (i := i) (j := l.length - 1) hi hn
    have hq2 := h.setL (swapL_perm hi hn) hne
    have c3 := c40 hq2 (3 :: 4 :: id) (i0 := i) (n := l.length - 1) (by rw [swapL_len]; exact hi) (by rw [swapL_len]; omega) (by rw [swapL_len]; exact hmax)
    simp only [setL_setL] at c3
    rw [← swapG_eq] at c3 c2
    have hp := (downL_perm (l.length - 1) (swapG l i (l.length - 1)) i (l.length - 1)).trans (swapG_perm l i (l.length - 1))
    have hq4 := h.setL hp hne
    have c4 := c39 hq4 (2 :: 5 :: id) (j0 := i) (by rw [hp.length_eq]; exact hi) (by rw [hp.length_eq]; omega)
    rw [setL_setL] at c4
    by_cases hc : i < (downL (l.length - 1) (swapG l i (l.length - 1)) i (l.length - 1)).2
    · have hr : rmL l i = (downL (l.length - 1) (swapG l i (l.length - 1)) i (l.length - 1)).1 := by unfold rmL; rw [if_neg e1, if_pos hc]
      obtain ⟨mk', hmk', hpop⟩ := c77 hq3 (1 :: 5 :: id) (by rw [rmL_len]; omega) (by rw [rmL_len]; exact hmax)
      refine ⟨mk', mk', hmk', ?_, rfl⟩
      refine PCS.of Try.func29 rfl (by simp) ⟨_, _, rfl, rfl⟩ fun hfr => ?_
      show PW _ _ _ _ ⟨entry _, σ, 0⟩ _
      rw [← hr] at c3
      repeat' first
        | (refine PW.seq ?_)
        | (refine PW.rg (Mof []) mixed (by kernel_rfl) ?_; simp [hw, hcl, e1, hc])
        | (refine PW.skip ?_; simp)
        | (refine PW.ret ?_; simp [hw, hcl, e1, hc]; done)
        | (refine PW.ret ?_; simp [hw, hcl, e1, hc])
        | (refine PW.exit ?_; simp)
        | (refine PW.condV ?_; simp [hw, hcl, e1, hc])
        | (refine PW.block ?_)
        | (refine CallS.of (c1) ?_; rintro _ _ ⟨rfl, rfl⟩; simp [hw, hcl, e1, hc])
        | (refine CallS.of (c2) ?_; rintro _ _ ⟨rfl, rfl⟩; simp [hw, hcl, e1, hc])
        | (refine CallS.of (c3) ?_; rintro _ _ ⟨rfl, rfl⟩; simp [hw, hcl, e1, hc])
        | (refine CallS.of (hpop) ?_; rintro _ _ ⟨rfl, rfl⟩; simp [hw, hcl, e1, hc])
        | (refine And.intro ?_ ?_)
        | (with_reducible intro _)

    · have hr : rmL l i = upL (i + 1) (downL (l.length - 1) (swapG l i (l.length - 1)) i (l.length - 1)).1 i := by unfold rmL; rw [if_neg e1, if_neg hc]
      obtain ⟨mk', hmk', hpop⟩ := c77 hq3 (1 :: 6 :: id) (by rw [rmL_len]; omega) (by rw [rmL_len]; exact hmax)
      refine ⟨mk', mk', hmk', ?_, rfl⟩
      refine PCS.of Try.func29 rfl (by simp) ⟨_, _, rfl, rfl⟩ fun hfr => ?_
      show PW _ _ _ _ ⟨entry _, σ, 0⟩ _
      rw [← hr] at c4
      repeat' first
        | (refine PW.seq ?_)
        | (refine PW.rg (Mof []) mixed (by kernel_rfl) ?_; simp [hw, hcl, e1, hc])
        | (refine PW.skip ?_; simp)
        | (refine PW.ret ?_; simp [hw, hcl, e1, hc]; done)
        | (refine PW.ret ?_; simp [hw, hcl, e1, hc])
        | (refine PW.exit ?_; simp)
        | (refine PW.condV ?_; simp [hw, hcl, e1, hc])
        | (refine PW.block ?_)
        | (refine CallS.of (c1) ?_; rintro _ _ ⟨rfl, rfl⟩; simp [hw, hcl, e1, hc])
        | (refine CallS.of (c2) ?_; rintro _ _ ⟨rfl, rfl⟩; simp [hw, hcl, e1, hc])
        | (refine CallS.of (c3) ?_; rintro _ _ ⟨rfl, rfl⟩; simp [hw, hcl, e1, hc])
        | (refine CallS.of (c4) ?_; rintro _ _ ⟨rfl, rfl⟩; simp [hw, hcl, e1, hc])
        | (refine CallS.of (hpop) ?_; rintro _ _ ⟨rfl, rfl⟩; simp [hw, hcl, e1, hc])
        | (refine And.intro ?_ ?_)
        | (with_reducible intro _)

end QT
end

section
set_option linter.unusedSimpArgs false
set_option linter.unusedVariables false
set_option linter.constructorNameAsVariable false
/- The queue's own methods. Printed in part by a program. -/
open Go hiding Id
open Go.Proofs Go.PM
set_option linter.unusedSimpArgs false
set_option linter.unusedVariables false
namespace QT
attribute [local irreducible] PW FL FR FS FB FM FG CallF CallS PC PCS bindK condK

def newS (σ : Sto) (id : PM.Id) : Sto := upd (upd σ (0 :: 1 :: id) (some (.map [] 0))) (3 :: 1 :: id) (some (.cells [[.nilS, .mp (0 :: 1 :: id)]] true))
theorem c8 {σ : Sto} (id : PM.Id) : PCS Try.prog id 8 [] σ (fun r σ' => r = .ptr (3 :: 1 :: id) 0 0 ∧ σ' = newS σ id) := by
  refine PCS.of Try.func8 rfl (by simp) ⟨_, _, rfl, rfl⟩ fun hfr => ?_
  show PW _ _ _ _ ⟨entry _, σ, 0⟩ _
  repeat' first
    | (refine PW.seq ?_)
    | (refine PW.rg (Mof []) mixed (by kernel_rfl) ?_; simp [newS, SAct.app])
    | (refine PW.skip ?_; simp)
    | (refine PW.ret ?_; simp [newS, SAct.app]; done)
    | (refine PW.ret ?_; simp [newS, SAct.app])
    | (refine PW.exit ?_; simp)
    | (refine PW.condV ?_; simp [newS, SAct.app])
    | (refine PW.block ?_)

    | (refine And.intro ?_ ?_)
    | (with_reducible intro _)

theorem QS.new (σ : Sto) (id : PM.Id) : QS (newS σ id) (3 :: 1 :: id) (9 :: 1 :: id) (0 :: 1 :: id) .nilS [] [] 0 [] := by
  refine ⟨by simp [newS], by simp [newS, ents, entsF], ⟨by simp, by simp, by simp, by simp⟩, .inl ⟨rfl, rfl⟩, by simp, by simp, by simp⟩

section
variable {σ : Sto} {q ii im : PM.Id} {it : PV} {rest : List (List PV)} {mk : List (Int × Nat)} {clk : Nat} {l : List It}

theorem c12 (h : QS σ q ii im it rest mk clk l) (id : PM.Id) :
    PCS Try.prog id 12 [.ptr q 0 0] σ (fun r σ' => r = .v (.int .i64 l.length) ∧ σ' = σ) := by
  refine PCS.of Try.func12 rfl (by simp) ⟨_, _, rfl, rfl⟩ fun hfr => ?_
  show PW _ _ _ _ ⟨entry _, σ, 0⟩ _
  have hq := h.hq
  have hl : pLen Try.prog σ 32 it = some (.v (.int .i64 l.length)) := by
    rcases h.hit with ⟨rfl, rfl⟩ | ⟨rfl, _⟩ <;> simp
  repeat' first
    | (refine PW.seq ?_)
    | (refine PW.rg (Mof []) mixed (by kernel_rfl) ?_; simp [hq, hl, -pLen, pEqNil])
    | (refine PW.skip ?_; simp)
    | (refine PW.ret ?_; simp [hq, hl, -pLen, pEqNil]; done)
    | (refine PW.ret ?_; simp [hq, hl, -pLen, pEqNil])
    | (refine PW.exit ?_; simp)
    | (refine PW.condV ?_; simp [hq, hl, -pLen, pEqNil])
    | (refine PW.block ?_)

    | (refine And.intro ?_ ?_)
    | (with_reducible intro _)


theorem find_in (h : MInv mk clk l) {k : Int} {i : Nat} (hi : i < l.length) (hk : l[i].1 = k) : ∃ a s, findP (.int .i64) (.int .i64 k) (ents mk l) 0 = some (some a) ∧ (ents mk l)[a]? = some (.int .i64 k, .v (.int .i64 i), s) := by
  obtain ⟨a, s, ha⟩ := h.ent hi
  rw [hk] at ha
  refine ⟨a, s, findF h.keys ha, ?_⟩
  unfold ents
  rw [getF ha]
  have := ix_get h.nodup (List.getElem?_eq_getElem hi)
  rw [hk] at this
  simp [this]
theorem find_out (h : MInv mk clk l) {k : Int} (hk : k ∉ l.map (·.1)) : findP (.int .i64) (.int .i64 k) (ents mk l) 0 = some none := by
  unfold ents
  rw [findP_entsF]
  have : mk.findIdx? (fun e => e.1 == k) = none := by
    rw [List.findIdx?_eq_none_iff]
    intro e he
    have hm : e.1 ∈ l.map (·.1) := h.perm.mem_iff.1 (List.mem_map_of_mem he)
    have : e.1 ≠ k := fun e' => hk (e' ▸ hm)
    simpa using this
  rw [this]
  rfl

theorem c15 (h : QS σ q ii im it rest mk clk l) (id : PM.Id) (k : Int) :
    PCS Try.prog id 15 [.ptr q 0 0, .v (.int .i64 k)] σ (fun r σ' => r = .v (.bool (decide (k ∈ l.map (·.1)))) ∧ σ' = σ) := by
  refine PCS.of Try.func15 rfl (by simp) ⟨_, _, rfl, rfl⟩ fun hfr => ?_
  show PW _ _ _ _ ⟨entry _, σ, 0⟩ _
  have hq := h.hq
  have hm := h.hm
  by_cases hk : k ∈ l.map (·.1)
  · obtain ⟨x, hx, hxk⟩ := List.mem_map.1 hk
    obtain ⟨i, hi, rfl⟩ := List.mem_iff_getElem.1 hx
    obtain ⟨a, s, hf, hg⟩ := find_in h.minv hi hxk
    simp only [hk, decide_true]
    clear hk
    repeat' first
      | (refine PW.seq ?_)
      | (refine PW.rg (Mof []) mixed (by kernel_rfl) ?_; simp [hq, hm, hf, hg, pEqNil, pLookup, toV])
      | (refine PW.skip ?_; simp)
      | (refine PW.ret ?_; simp [hq, hm, hf, hg, pEqNil, pLookup, toV]; done)
      | (refine PW.ret ?_; simp [hq, hm, hf, hg, pEqNil, pLookup, toV])
      | (refine PW.exit ?_; simp)
      | (refine PW.condV ?_; simp [hq, hm, hf, hg, pEqNil, pLookup, toV])
      | (refine PW.block ?_)

      | (refine And.intro ?_ ?_)
      | (with_reducible intro _)

  · have hf := find_out h.minv hk
    simp only [hk, decide_false]
    clear hk
    repeat' first
      | (refine PW.seq ?_)
      | (refine PW.rg (Mof []) mixed (by kernel_rfl) ?_; simp [hq, hm, hf, pEqNil, pLookup, toV])
      | (refine PW.skip ?_; simp)
      | (refine PW.ret ?_; simp [hq, hm, hf, pEqNil, pLookup, toV]; done)
      | (refine PW.ret ?_; simp [hq, hm, hf, pEqNil, pLookup, toV])
      | (refine PW.exit ?_; simp)
      | (refine PW.condV ?_; simp [hq, hm, hf, pEqNil, pLookup, toV])
      | (refine PW.block ?_)

      | (refine And.intro ?_ ?_)
      | (with_reducible intro _)

end
end QT
end

section
set_option linter.unusedSimpArgs false
set_option linter.unusedVariables false
set_option linter.constructorNameAsVariable false
/- The queue's own methods: ready, Push. Printed in part by a program. -/
open Go hiding Id
open Go.Proofs Go.PM
set_option linter.unusedSimpArgs false
set_option linter.unusedVariables false
namespace QT
attribute [local irreducible] PW FL FR FS FB FM FG CallF CallS PC PCS bindK condK

section
variable {σ : Sto} {q ii im : PM.Id} {it : PV} {rest : List (List PV)} {mk : List (Int × Nat)} {clk : Nat} {l : List It}

theorem c27 (h : QS σ q ii im it rest mk clk l) (id : PM.Id) :
    PCS Try.prog id 27 [.ptr q 0 0] σ (fun r σ' => r = .tup [] ∧ σ' = σ) := by
  refine PCS.of Try.func27 rfl (by simp) ⟨_, _, rfl, rfl⟩ fun hfr => ?_
  show PW _ _ _ _ ⟨entry _, σ, 0⟩ _
  have hq := h.hq
  repeat' first
    | (refine PW.seq ?_)
    | (refine PW.rg (Mof []) mixed (by kernel_rfl) ?_; simp [hq, pEqNil])
    | (refine PW.skip ?_; simp)
    | (refine PW.ret ?_; simp [hq, pEqNil]; done)
    | (refine PW.ret ?_; simp [hq, pEqNil])
    | (refine PW.exit ?_; simp)
    | (refine PW.condV ?_; simp [hq, pEqNil])
    | (refine PW.block ?_)

    | (refine And.intro ?_ ?_)
    | (with_reducible intro _)


theorem c13_has (h : QS σ q ii im it rest mk clk l) (id : PM.Id) (x : It) (hk : x.1 ∈ l.map (·.1)) :
    PCS Try.prog id 13 [.ptr q 0 0, .v (.int .i64 x.1), .v (.int .i64 x.2)] σ (fun r σ' => r = .v (.int .i64 6) ∧ σ' = σ) := by
  refine PCS.of Try.func13 rfl (by simp) ⟨_, _, rfl, rfl⟩ fun hfr => ?_
  show PW _ _ _ _ ⟨entry _, σ, 0⟩ _
  have c1 := c27 h (1 :: 2 :: id)
  have c2 := c15 h (2 :: 3 :: id) x.1
  simp only [hk, decide_true] at c2
  repeat' first
    | (refine PW.seq ?_)
    | (refine PW.rg (Mof []) mixed (by kernel_rfl) ?_; simp [pEqNil])
    | (refine PW.skip ?_; simp)
    | (refine PW.ret ?_; simp [pEqNil]; done)
    | (refine PW.ret ?_; simp [pEqNil])
    | (refine PW.exit ?_; simp)
    | (refine PW.condV ?_; simp [pEqNil])
    | (refine PW.block ?_)
    | (refine CallS.of (c1) ?_; rintro _ _ ⟨rfl, rfl⟩; simp [pEqNil])
    | (refine CallS.of (c2) ?_; rintro _ _ ⟨rfl, rfl⟩; simp [pEqNil])
    | (refine And.intro ?_ ?_)
    | (with_reducible intro _)


theorem c13_full (h : QS σ q ii im it rest mk clk l) (id : PM.Id) (x : It) (hk : x.1 ∉ l.map (·.1)) (hl : 4096 ≤ l.length) :
    PCS Try.prog id 13 [.ptr q 0 0, .v (.int .i64 x.1), .v (.int .i64 x.2)] σ (fun r σ' => r = .v (.int .i64 10) ∧ σ' = σ) := by
  refine PCS.of Try.func13 rfl (by simp) ⟨_, _, rfl, rfl⟩ fun hfr => ?_
  show PW _ _ _ _ ⟨entry _, σ, 0⟩ _
  have hq := h.hq
  have hle : pLen Try.prog σ 32 it = some (.v (.int .i64 l.length)) := by
    rcases h.hit with ⟨rfl, rfl⟩ | ⟨rfl, _⟩ <;> simp
  have hli : (4096 : Int) ≤ (l.length : Int) := by omega
  have c1 := c27 h (1 :: 2 :: id)
  have c2 := c15 h (2 :: 3 :: id) x.1
  simp only [hk, decide_false] at c2
  repeat' first
    | (refine PW.seq ?_)
    | (refine PW.rg (Mof []) mixed (by kernel_rfl) ?_; simp [pEqNil, hq, hle, hli, -pLen])
    | (refine PW.skip ?_; simp)
    | (refine PW.ret ?_; simp [pEqNil, hq, hle, hli, -pLen]; done)
    | (refine PW.ret ?_; simp [pEqNil, hq, hle, hli, -pLen])
    | (refine PW.exit ?_; simp)
    | (refine PW.condV ?_; simp [pEqNil, hq, hle, hli, -pLen])
    | (refine PW.block ?_)
    | (refine CallS.of (c1) ?_; rintro _ _ ⟨rfl, rfl⟩; simp [pEqNil, hq, hle, hli, -pLen])
    | (refine CallS.of (c2) ?_; rintro _ _ ⟨rfl, rfl⟩; simp [pEqNil, hq, hle, hli, -pLen])
    | (refine And.intro ?_ ?_)
    | (with_reducible intro _)


theorem c13_ok (h : QS σ q ii im it rest mk clk l) (id : PM.Id) (x : It) (hk : x.1 ∉ l.map (·.1)) (hl : l.length < 4096) :
    PCS Try.prog id 13 [.ptr q 0 0, .v (.int .i64 x.1), .v (.int .i64 x.2)] σ (fun r σ' => r = .v (.int .i64 0) ∧
      σ' = setL (pushS σ q ii im (2 :: 0 :: 8 :: 5 :: id) mk clk l x) (7 :: 2 :: 2 :: 0 :: 8 :: 5 :: id) im (upL (l.length + 1) (l ++ [x]) l.length) [] (mk ++ [(x.1, clk)]) (clk + 1)) := by
  refine PCS.of Try.func13 rfl (by simp) ⟨_, _, rfl, rfl⟩ fun hfr => ?_
  show PW _ _ _ _ ⟨entry _, σ, 0⟩ _
  have hq := h.hq
  have hle : pLen Try.prog σ 32 it = some (.v (.int .i64 l.length)) := by
    rcases h.hit with ⟨rfl, rfl⟩ | ⟨rfl, _⟩ <;> simp
  have hli : ¬ (4096 : Int) ≤ (l.length : Int) := by omega
  have c1 := c27 h (1 :: 2 :: id)
  have c2 := c15 h (2 :: 3 :: id) x.1
  have c3 := c28 h (8 :: 5 :: id) x hk (by omega)
  simp only [hk, decide_false] at c2
  repeat' first
    | (refine PW.seq ?_)
    | (refine PW.rg (Mof []) mixed (by kernel_rfl) ?_; simp [pEqNil, hq, hle, hli, -pLen])
    | (refine PW.skip ?_; simp)
    | (refine PW.ret ?_; simp [pEqNil, hq, hle, hli, -pLen]; done)
    | (refine PW.ret ?_; simp [pEqNil, hq, hle, hli, -pLen])
    | (refine PW.exit ?_; simp)
    | (refine PW.condV ?_; simp [pEqNil, hq, hle, hli, -pLen])
    | (refine PW.block ?_)
    | (refine CallS.of (c1) ?_; rintro _ _ ⟨rfl, rfl⟩; simp [pEqNil, hq, hle, hli, -pLen])
    | (refine CallS.of (c2) ?_; rintro _ _ ⟨rfl, rfl⟩; simp [pEqNil, hq, hle, hli, -pLen])
    | (refine CallS.of (c3) ?_; rintro _ _ ⟨rfl, rfl⟩; simp [pEqNil, hq, hle, hli, -pLen])
    | (refine And.intro ?_ ?_)
    | (with_reducible intro _)

end
end QT
end

section
set_option linter.unusedSimpArgs false
set_option linter.unusedVariables false
set_option linter.constructorNameAsVariable false
/- The queue's own methods: Pop, Peek. Printed in part by a program. -/
open Go hiding Id
open Go.Proofs Go.PM
set_option linter.unusedSimpArgs false
set_option linter.unusedVariables false
namespace QT
attribute [local irreducible] PW FL FR FS FB FM FG CallF CallS PC PCS bindK condK

section
variable {σ : Sto} {q ii im : PM.Id} {it : PV} {rest : List (List PV)} {mk : List (Int × Nat)} {clk : Nat} {l : List It}

theorem QS.loc (h : QS σ q ii im it rest mk clk l) {id : PM.Id} (hfr : ∀ j, id <:+ j → σ j = none) (k c : Nat) (B : Blk) : QS (upd σ (k :: c :: id) (some B)) q ii im it rest mk clk l := by
  have fq := fresh_ne hfr h.hq
  have fm := fresh_ne hfr h.hm
  refine ⟨by simp [fq, h.hq], by simp [fm, h.hm], h.minv, ?_, h.ne, h.ne1, h.ne2⟩
  rcases h.hit with h1 | ⟨h1, h2⟩
  · exact .inl h1
  · have fi := fresh_ne hfr h2
    exact .inr ⟨h1, by simp [fi, h2]⟩

theorem c16_none (h : QS σ q ii im it rest mk clk []) (id : PM.Id) :
    PCS Try.prog id 16 [.ptr q 0 0] σ (fun r σ' => r = .tup [.agg (encI (0, 0)), .v (.int .i64 9)] ∧ σ' = σ) := by
  refine PCS.of Try.func16 rfl (by simp) ⟨_, _, rfl, rfl⟩ fun hfr => ?_
  show PW _ _ _ _ ⟨entry _, σ, 0⟩ _
  have c1 := c12 (h.loc hfr 0 0 (.cells [[.v (.int .i64 0), .v (.int .i64 0)]] true)) (1 :: 1 :: id)
  simp only [List.length_nil] at c1
  repeat' first
    | (refine PW.seq ?_)
    | (refine PW.rg (Mof []) mixed (by kernel_rfl) ?_; simp [encI])
    | (refine PW.skip ?_; simp)
    | (refine PW.ret ?_; simp [encI]; done)
    | (refine PW.ret ?_; simp [encI])
    | (refine PW.exit ?_; simp)
    | (refine PW.condV ?_; simp [encI])
    | (refine PW.block ?_)
    | (refine CallS.of (c1) ?_; rintro _ _ ⟨rfl, rfl⟩; simp [encI])
    | (refine And.intro ?_ ?_)
    | (with_reducible intro _)

  rename_i jj B hB
  have g1 : jj ≠ 0 :: 0 :: id := by
    rintro rfl
    rw [hfr (0 :: 0 :: id) ⟨[0, 0], rfl⟩] at hB
    cases hB
  simpa [g1] using hB

theorem c16 (h : QS σ q ii im it rest mk clk l) (id : PM.Id) (h0 : 0 < l.length) (hmax : l.length ≤ 100000) :
    ∃ mk', MInv mk' clk (popL l).dropLast ∧ PCS Try.prog id 16 [.ptr q 0 0] σ (fun r σ' => r = .tup [.agg (encI ((popL l)[(popL l).length - 1]'(by rw [popL_len]; omega))), .v (.int .i64 0)] ∧
      σ' = upd (upd (setL σ ii im (popL l) rest mk clk) q (some (.cells [[.own ii 40 0 ((popL l).length - 1), .mp im]] true))) im (some (.map (ents mk' (popL l).dropLast) clk))) := by
  obtain ⟨mk', hmk', hpop⟩ : ∃ mk', MInv mk' clk (popL l).dropLast ∧ ((∀ j, id <:+ j → σ j = none) → _) := by
    by_cases hfr : ∀ j, id <:+ j → σ j = none
    · obtain ⟨mk', h1, h2⟩ := c30 (h.loc hfr 0 0 (.cells [[.v (.int .i64 0), .v (.int .i64 0)]] true)) (4 :: 2 :: id) h0 hmax
      exact ⟨mk', h1, fun _ => h2⟩
    · obtain ⟨mk', h1, _⟩ := c30 h (4 :: 2 :: id) h0 hmax
      exact ⟨mk', h1, fun e => absurd e hfr⟩
  refine ⟨mk', hmk', ?_⟩
  refine PCS.of Try.func16 rfl (by simp) ⟨_, _, rfl, rfl⟩ fun hfr => ?_
  show PW _ _ _ _ ⟨entry _, σ, 0⟩ _
  have hpop := hpop hfr
  have c1 := c12 (h.loc hfr 0 0 (.cells [[.v (.int .i64 0), .v (.int .i64 0)]] true)) (1 :: 1 :: id)
  have hlz : ¬ (l.length : Int) = 0 := by omega
  have hlz' : ¬ l = [] := by rintro rfl; simp at h0
  obtain ⟨_, hσi⟩ := h.own h0
  have fq := fresh_ne hfr h.hq
  have fm := fresh_ne hfr h.hm
  have fi := fresh_ne hfr hσi
  repeat' first
    | (refine PW.seq ?_)
    | (refine PW.rg (Mof []) mixed (by kernel_rfl) ?_; simp [hlz, hlz', setL, fq, fm, fi])
    | (refine PW.skip ?_; simp)
    | (refine PW.ret ?_; simp [hlz, hlz', setL, fq, fm, fi]; done)
    | (refine PW.ret ?_; simp [hlz, hlz', setL, fq, fm, fi])
    | (refine PW.exit ?_; simp)
    | (refine PW.condV ?_; simp [hlz, hlz', setL, fq, fm, fi])
    | (refine PW.block ?_)
    | (refine CallS.of (c1) ?_; rintro _ _ ⟨rfl, rfl⟩; simp [hlz, hlz', setL, fq, fm, fi])
    | (refine CallS.of (hpop) ?_; rintro _ _ ⟨rfl, rfl⟩; simp [hlz, hlz', setL, fq, fm, fi])
    | (refine And.intro ?_ ?_)
    | (with_reducible intro _)

  rename_i jj B hB
  have g1 : jj ≠ 0 :: 0 :: id := by
    rintro rfl
    simp [fq, fm, fi, hfr (0 :: 0 :: id) ⟨[0, 0], rfl⟩] at hB
  simpa [g1] using hB

theorem c17_none (h : QS σ q ii im it rest mk clk []) (id : PM.Id) :
    PCS Try.prog id 17 [.ptr q 0 0] σ (fun r σ' => r = .tup [.agg (encI (0, 0)), .v (.int .i64 9)] ∧ σ' = σ) := by
  refine PCS.of Try.func17 rfl (by simp) ⟨_, _, rfl, rfl⟩ fun hfr => ?_
  show PW _ _ _ _ ⟨entry _, σ, 0⟩ _
  have c1 := c12 (h.loc hfr 0 0 (.cells [[.v (.int .i64 0), .v (.int .i64 0)]] true)) (1 :: 1 :: id)
  simp only [List.length_nil] at c1
  repeat' first
    | (refine PW.seq ?_)
    | (refine PW.rg (Mof []) mixed (by kernel_rfl) ?_; simp [encI])
    | (refine PW.skip ?_; simp)
    | (refine PW.ret ?_; simp [encI]; done)
    | (refine PW.ret ?_; simp [encI])
    | (refine PW.exit ?_; simp)
    | (refine PW.condV ?_; simp [encI])
    | (refine PW.block ?_)
    | (refine CallS.of (c1) ?_; rintro _ _ ⟨rfl, rfl⟩; simp [encI])
    | (refine And.intro ?_ ?_)
    | (with_reducible intro _)

  rename_i jj B hB
  have g1 : jj ≠ 0 :: 0 :: id := by
    rintro rfl
    rw [hfr (0 :: 0 :: id) ⟨[0, 0], rfl⟩] at hB
    cases hB
  simpa [g1] using hB

theorem c17 (h : QS σ q ii im it rest mk clk l) (id : PM.Id) (h0 : 0 < l.length) :
    PCS Try.prog id 17 [.ptr q 0 0] σ (fun r σ' => r = .tup [.agg (encI (l[0]'h0)), .v (.int .i64 0)] ∧ σ' = σ) := by
  refine PCS.of Try.func17 rfl (by simp) ⟨_, _, rfl, rfl⟩ fun hfr => ?_
  show PW _ _ _ _ ⟨entry _, σ, 0⟩ _
  have c1 := c12 (h.loc hfr 0 0 (.cells [[.v (.int .i64 0), .v (.int .i64 0)]] true)) (1 :: 1 :: id)
  have hlz : ¬ (l.length : Int) = 0 := by omega
  have hlz' : ¬ l = [] := by rintro rfl; simp at h0
  obtain ⟨hit, hσi⟩ := h.own h0
  have hq := h.hq
  have hei := es_get (rest := rest) h0
  have fq := fresh_ne hfr h.hq
  have fm := fresh_ne hfr h.hm
  have fi := fresh_ne hfr hσi
  subst hit
  generalize hE : l.map encI ++ rest = es at hσi hei
  repeat' first
    | (refine PW.seq ?_)
    | (refine PW.rg (Mof []) mixed (by kernel_rfl) ?_; simp [hlz, hlz', h0, hq, hei, hσi, fq, fm, fi])
    | (refine PW.skip ?_; simp)
    | (refine PW.ret ?_; simp [hlz, hlz', h0, hq, hei, hσi, fq, fm, fi]; done)
    | (refine PW.ret ?_; simp [hlz, hlz', h0, hq, hei, hσi, fq, fm, fi])
    | (refine PW.exit ?_; simp)
    | (refine PW.condV ?_; simp [hlz, hlz', h0, hq, hei, hσi, fq, fm, fi])
    | (refine PW.block ?_)
    | (refine CallS.of (c1) ?_; rintro _ _ ⟨rfl, rfl⟩; simp [hlz, hlz', h0, hq, hei, hσi, fq, fm, fi])
    | (refine And.intro ?_ ?_)
    | (with_reducible intro _)

  rename_i jj B hB
  have g1 : jj ≠ 0 :: 0 :: id := by
    rintro rfl
    rw [hfr (0 :: 0 :: id) ⟨[0, 0], rfl⟩] at hB
    cases hB
  simpa [g1] using hB
end
end QT
end

section
set_option linter.unusedSimpArgs false
set_option linter.unusedVariables false
set_option linter.constructorNameAsVariable false
/- The queue's own methods: Fix, Remove. Printed in part by a program. -/
open Go hiding Id
open Go.Proofs Go.PM
set_option linter.unusedSimpArgs false
set_option linter.unusedVariables false
namespace QT
attribute [local irreducible] PW FL FR FS FB FM FG CallF CallS PC PCS bindK condK

theorem ix_congr : ∀ {l l' : List It}, l.map (·.1) = l'.map (·.1) → ∀ k, ix l k = ix l' k
  | [], [], _, _ => rfl
  | [], y :: r, h, _ => by simp at h
  | y :: r, [], h, _ => by simp at h
  | x :: r, y :: r', h, k => by
    simp only [List.map_cons, List.cons.injEq] at h
    simp only [ix, h.1, ix_congr h.2 k]

theorem keys_set {l : List It} {i : Nat} (hi : i < l.length) (key : Int) : (l.set i (l[i].1, key)).map (·.1) = l.map (·.1) := by
  apply List.ext_getElem?
  intro j
  rw [List.getElem?_map, List.getElem?_map, List.getElem?_set]
  by_cases h : i = j
  · subst h; simp [hi]
  · simp [h]

@[simp] theorem encI_take1 (x : It) : (encI x).take 1 = [.v (.int .i64 x.1)] := (rfl)

section
variable {σ : Sto} {q ii im : PM.Id} {it : PV} {rest : List (List PV)} {mk : List (Int × Nat)} {clk : Nat} {l : List It}

theorem QS.key (h : QS σ q ii im it rest mk clk l) {i : Nat} (hi : i < l.length) (key : Int) :
    QS (upd σ ii (some (.cells ((l.set i (l[i].1, key)).map encI ++ rest) true))) q ii im it rest mk clk (l.set i (l[i].1, key)) := by
  have hk := keys_set hi key
  obtain ⟨h1, h2⟩ := h.own hi
  refine ⟨by simp [h.ne, h.hq], ?_, ⟨by rw [hk]; exact h.minv.nodup, by rw [hk]; exact h.minv.perm, h.minv.stamps, h.minv.lt⟩, .inr ⟨by simp [h1], by simp⟩, h.ne, h.ne1, h.ne2⟩
  simp only [upd_if, Ne.symm h.ne2, if_false]
  rw [h.hm]
  congr 2
  exact entsF_congr fun e _ => by rw [ix_congr hk.symm]

/-- The items behind Fix. -/
def fixL (l : List It) (i : Nat) : List It := if i < (downL l.length l i l.length).2 then (downL l.length l i l.length).1 else upL (i + 1) (downL l.length l i l.length).1 i
theorem fixL_perm (l : List It) (i : Nat) : (fixL l i).Perm l := by
  unfold fixL
  split
  · exact downL_perm _ _ _ _
  · exact (upL_perm _ _ _).trans (downL_perm _ _ _ _)

theorem c18_none (h : QS σ q ii im it rest mk clk l) (id : PM.Id) (k key : Int) (hk : k ∉ l.map (·.1)) :
    PCS Try.prog id 18 [.ptr q 0 0, .v (.int .i64 k), .v (.int .i64 key)] σ (fun r σ' => r = .v (.int .i64 9) ∧ σ' = σ) := by
  refine PCS.of Try.func18 rfl (by simp) ⟨_, _, rfl, rfl⟩ fun hfr => ?_
  show PW _ _ _ _ ⟨entry _, σ, 0⟩ _
  have c1 := c15 h (2 :: 1 :: id) k
  simp only [hk, decide_false] at c1
  repeat' first
    | (refine PW.seq ?_)
    | (refine PW.rg (Mof []) mixed (by kernel_rfl) ?_; simp [pEqNil])
    | (refine PW.skip ?_; simp)
    | (refine PW.ret ?_; simp [pEqNil]; done)
    | (refine PW.ret ?_; simp [pEqNil])
    | (refine PW.exit ?_; simp)
    | (refine PW.condV ?_; simp [pEqNil])
    | (refine PW.block ?_)
    | (refine CallS.of (c1) ?_; rintro _ _ ⟨rfl, rfl⟩; simp [pEqNil])
    | (refine And.intro ?_ ?_)
    | (with_reducible intro _)


theorem c18 (h : QS σ q ii im it rest mk clk l) (id : PM.Id) (key : Int) {i : Nat} (hi : i < l.length) (hmax : l.length ≤ 100000) :
    PCS Try.prog id 18 [.ptr q 0 0, .v (.int .i64 l[i].1), .v (.int .i64 key)] σ (fun r σ' => r = .v (.int .i64 0) ∧ σ' = setL σ ii im (fixL (l.set i (l[i].1, key)) i) rest mk clk) := by
  refine PCS.of Try.func18 rfl (by simp) ⟨_, _, rfl, rfl⟩ fun hfr => ?_
  show PW _ _ _ _ ⟨entry _, σ, 0⟩ _
  have c1 := c15 h (2 :: 1 :: id) l[i].1
  have hmem : l[i].1 ∈ l.map (·.1) := List.mem_map_of_mem (List.getElem_mem hi)
  simp only [hmem, decide_true] at c1
  obtain ⟨a, s, hf, hg⟩ := find_in h.minv hi rfl
  have c2 := c31 (h.key hi key) (5 :: 4 :: id) (i := i) (by simpa using hi) (by simpa using hmax)
  have hset : setL (upd σ ii (some (.cells ((l.set i (l[i].1, key)).map encI ++ rest) true))) ii im (fixL (l.set i (l[i].1, key)) i) rest mk clk = setL σ ii im (fixL (l.set i (l[i].1, key)) i) rest mk clk := by
    funext j; simp only [setL, upd_if]; split <;> (try split) <;> rfl
  change PCS _ _ _ _ _ (fun r σ' => r = _ ∧ σ' = setL _ ii im (fixL (l.set i (l[i].1, key)) i) rest mk clk) at c2
  rw [hset] at c2
  have hs : (l.map encI ++ rest).set i (encI (l[i].1, key)) = (l.set i (l[i].1, key)).map encI ++ rest := es_set hi _
  have hs' : (l.map encI ++ rest).set i [.v (.int .i64 l[i].1), .v (.int .i64 key)] = (l.set i (l[i].1, key)).map encI ++ rest := hs
  rw [← hs] at c2
  have hei := es_get (rest := rest) hi
  obtain ⟨hit, hσi⟩ := h.own hi
  have hq := h.hq
  have hm := h.hm
  have n1 := h.ne
  have n2 := h.ne1
  have n3 := h.ne2
  have n1' := Ne.symm n1
  have n2' := Ne.symm n2
  have n3' := Ne.symm n3
  subst hit
  clear hset hs hs'
  generalize fixL (l.set i (l[i].1, key)) i = L at *
  generalize hE : l.map encI ++ rest = es at hσi hei c2
  change PCS _ _ _ _ (upd σ ii (some (.cells (es.set i [.v (.int .i64 l[i].1), .v (.int .i64 key)]) true))) _ at c2
  generalize hx : l[i] = x at *
  repeat' first
    | (refine PW.seq ?_)
    | (refine PW.rg (Mof []) mixed (by kernel_rfl) ?_; simp [pEqNil, hi, hq, hm, hei, hσi, hf, hg, n1, n2, n3, n1', n2', n3', pLookup, toV])
    | (refine PW.skip ?_; simp)
    | (refine PW.ret ?_; simp [pEqNil, hi, hq, hm, hei, hσi, hf, hg, n1, n2, n3, n1', n2', n3', pLookup, toV]; done)
    | (refine PW.ret ?_; simp [pEqNil, hi, hq, hm, hei, hσi, hf, hg, n1, n2, n3, n1', n2', n3', pLookup, toV])
    | (refine PW.exit ?_; simp)
    | (refine PW.condV ?_; simp [pEqNil, hi, hq, hm, hei, hσi, hf, hg, n1, n2, n3, n1', n2', n3', pLookup, toV])
    | (refine PW.block ?_)
    | (refine CallS.of (c1) ?_; rintro _ _ ⟨rfl, rfl⟩; simp [pEqNil, hi, hq, hm, hei, hσi, hf, hg, n1, n2, n3, n1', n2', n3', pLookup, toV])
    | (refine CallS.of (c2) ?_; rintro _ _ ⟨rfl, rfl⟩; simp [pEqNil, hi, hq, hm, hei, hσi, hf, hg, n1, n2, n3, n1', n2', n3', pLookup, toV])
    | (refine And.intro ?_ ?_)
    | (with_reducible intro _)


theorem c14_none (h : QS σ q ii im it rest mk clk l) (id : PM.Id) (k : Int) (hk : k ∉ l.map (·.1)) :
    PCS Try.prog id 14 [.ptr q 0 0, .v (.int .i64 k)] σ (fun r σ' => r = .v (.int .i64 9) ∧ σ' = σ) := by
  refine PCS.of Try.func14 rfl (by simp) ⟨_, _, rfl, rfl⟩ fun hfr => ?_
  show PW _ _ _ _ ⟨entry _, σ, 0⟩ _
  have c1 := c15 h (2 :: 1 :: id) k
  simp only [hk, decide_false] at c1
  repeat' first
    | (refine PW.seq ?_)
    | (refine PW.rg (Mof []) mixed (by kernel_rfl) ?_; simp [pEqNil])
    | (refine PW.skip ?_; simp)
    | (refine PW.ret ?_; simp [pEqNil]; done)
    | (refine PW.ret ?_; simp [pEqNil])
    | (refine PW.exit ?_; simp)
    | (refine PW.condV ?_; simp [pEqNil])
    | (refine PW.block ?_)
    | (refine CallS.of (c1) ?_; rintro _ _ ⟨rfl, rfl⟩; simp [pEqNil])
    | (refine And.intro ?_ ?_)
    | (with_reducible intro _)


theorem c14 (h : QS σ q ii im it rest mk clk l) (id : PM.Id) {i : Nat} (hi : i < l.length) (hmax : l.length ≤ 100000) :
    ∃ mk', MInv mk' clk (rmL l i).dropLast ∧ PCS Try.prog id 14 [.ptr q 0 0, .v (.int .i64 l[i].1)] σ (fun r σ' => r = .v (.int .i64 0) ∧
      σ' = upd (upd (setL σ ii im (rmL l i) rest mk clk) q (some (.cells [[.own ii 40 0 ((rmL l i).length - 1), .mp im]] true))) im (some (.map (ents mk' (rmL l i).dropLast) clk))) := by
  obtain ⟨mk', _, hmk', c2, _⟩ := c29 h (11 :: 2 :: id) hi hmax
  refine ⟨mk', hmk', ?_⟩
  refine PCS.of Try.func14 rfl (by simp) ⟨_, _, rfl, rfl⟩ fun hfr => ?_
  show PW _ _ _ _ ⟨entry _, σ, 0⟩ _
  have c1 := c15 h (2 :: 1 :: id) l[i].1
  have hmem : l[i].1 ∈ l.map (·.1) := List.mem_map_of_mem (List.getElem_mem hi)
  simp only [hmem, decide_true] at c1
  obtain ⟨a, s, hf, hg⟩ := find_in h.minv hi rfl
  have hq := h.hq
  have hm := h.hm
  repeat' first
    | (refine PW.seq ?_)
    | (refine PW.rg (Mof []) mixed (by kernel_rfl) ?_; simp [pEqNil, hi, hq, hm, hf, hg, pLookup, toV])
    | (refine PW.skip ?_; simp)
    | (refine PW.ret ?_; simp [pEqNil, hi, hq, hm, hf, hg, pLookup, toV]; done)
    | (refine PW.ret ?_; simp [pEqNil, hi, hq, hm, hf, hg, pLookup, toV])
    | (refine PW.exit ?_; simp)
    | (refine PW.condV ?_; simp [pEqNil, hi, hq, hm, hf, hg, pLookup, toV])
    | (refine PW.block ?_)
    | (refine CallS.of (c1) ?_; rintro _ _ ⟨rfl, rfl⟩; simp [pEqNil, hi, hq, hm, hf, hg, pLookup, toV])
    | (refine CallS.of (c2) ?_; rintro _ _ ⟨rfl, rfl⟩; simp [pEqNil, hi, hq, hm, hf, hg, pLookup, toV])
    | (refine And.intro ?_ ?_)
    | (with_reducible intro _)

end
end QT
end

section
set_option linter.unusedSimpArgs false
set_option linter.unusedVariables false
set_option linter.constructorNameAsVariable false
/- The document's list: ahead, place, Has. Printed in part by a program. -/
open Go hiding Id
open Go.Proofs Go.PM
set_option linter.unusedSimpArgs false
set_option linter.unusedVariables false
namespace QT
attribute [local irreducible] PW FL FR FS FB FM FG CallF CallS PC PCS bindK condK

def aheadP (x y : It) : Prop := x.2 < y.2 ∨ x.2 = y.2 ∧ x.1 < y.1
instance (x y : It) : Decidable (aheadP x y) := by unfold aheadP; infer_instance

theorem c41 (x y : It) : PC Try.prog 41 [.agg (encI x), .agg (encI y)] (.v (.bool (decide (aheadP x y)))) := by
  refine PC.of' Try.func41 rfl (by simp) ?_
  unfold aheadP
  by_cases h1 : x.2 < y.2
  · simp only [h1, true_or, decide_true]
    repeat' first
      | (refine PW.seq ?_)
      | (refine PW.rg (Mof []) mixed (by kernel_rfl) ?_; simp [h1, encI])
      | (refine PW.skip ?_; simp)
      | (refine PW.ret ?_; simp [h1, encI]; done)
      | (refine PW.ret ?_; simp [h1, encI])
      | (refine PW.exit ?_; simp)
      | (refine PW.condV ?_; simp [h1, encI])
      | (refine PW.block ?_)
      | (refine And.intro ?_ ?_)
      | (with_reducible intro _)

  · by_cases h2 : x.2 = y.2
    · simp only [h1, h2, true_and, false_or]
      repeat' first
        | (refine PW.seq ?_)
        | (refine PW.rg (Mof []) mixed (by kernel_rfl) ?_; simp [h1, h2, encI])
        | (refine PW.skip ?_; simp)
        | (refine PW.ret ?_; simp [h1, h2, encI]; done)
        | (refine PW.ret ?_; simp [h1, h2, encI])
        | (refine PW.exit ?_; simp)
        | (refine PW.condV ?_; simp [h1, h2, encI])
        | (refine PW.block ?_)
        | (refine And.intro ?_ ?_)
        | (with_reducible intro _)

    · simp only [h1, h2, false_and, or_false, decide_false]
      repeat' first
        | (refine PW.seq ?_)
        | (refine PW.rg (Mof []) mixed (by kernel_rfl) ?_; simp [h1, h2, encI])
        | (refine PW.skip ?_; simp)
        | (refine PW.ret ?_; simp [h1, h2, encI]; done)
        | (refine PW.ret ?_; simp [h1, h2, encI])
        | (refine PW.exit ?_; simp)
        | (refine PW.condV ?_; simp [h1, h2, encI])
        | (refine PW.block ?_)
        | (refine And.intro ?_ ?_)
        | (with_reducible intro _)


/-- Where an Id stands; -1, if it doesn't. -/
def placeL : List It → Int → Int
  | [], _ => -1
  | x :: r, k => if x.1 = k then 0 else if placeL r k < 0 then -1 else placeL r k + 1

end QT
end

section
set_option linter.unusedSimpArgs false
set_option linter.unusedVariables false
set_option linter.constructorNameAsVariable false
/- The document's list: place, Has. Printed in part by a program. -/
open Go hiding Id
open Go.Proofs Go.PM
set_option linter.unusedSimpArgs false
set_option linter.unusedVariables false
namespace QT
attribute [local irreducible] PW FL FR FS FB FM FG CallF CallS PC PCS bindK condK

/-- Where an Id stands, from a place on; -1, if it doesn't. -/
def placeF : List It → Int → Nat → Int
  | [], _, _ => -1
  | x :: r, k, i => if x.1 = k then i else placeF r k (i + 1)

theorem placeF_drop : ∀ (l : List It) (k : Int) (i j : Nat) (x : It), l[j]? = some x → placeF (l.drop j) k i = if x.1 = k then (i : Int) else placeF (l.drop (j + 1)) k (i + 1)
  | [], k, i, j, x, h => by simp at h
  | a :: r, k, i, 0, x, h => by simp at h; subst h; simp [placeF]
  | a :: r, k, i, j + 1, x, h => by simp at h; simpa using placeF_drop r k i j x h

theorem c33 (l : List It) (k : Int) (hl : l.length ≤ 100000) : PC Try.prog 33 [.sl (l.map encI), .v (.int .i64 k)] (.v (.int .i64 (placeF l k 0))) := by
  refine PC.of' Try.func33 rfl (by simp) ?_
  repeat' first
    | (refine PW.seq ?_)
    | (refine PW.rg (Mof []) mixed (by kernel_rfl) ?_; simp [])
    | (refine PW.skip ?_; simp)
    | (refine PW.ret ?_; simp []; done)
    | (refine PW.ret ?_; simp [])
    | (refine PW.exit ?_; simp)
    | (refine PW.condV ?_; simp [])
    | (refine PW.block ?_)
    | (refine And.intro ?_ ?_)
    | (with_reducible intro _)

  refine PW.loop (fun n s => ∃ j : Nat, n = l.length - j ∧ j ≤ l.length ∧ s.t 9 = .v (.int .i64 j) ∧ s.t 8 = .v (.int .i64 l.length) ∧ s.t 7 = .sl (l.map encI) ∧ s.t 1 = .v (.int .i64 k) ∧ placeF (l.drop j) k j = placeF l k 0) l.length ?_ ?_
  · exact ⟨0, by simp⟩
  rintro n ⟨t, σ, c⟩ ⟨j, hn, hj, h9, h8, h7, h1, hf⟩
  simp only at h9 h8 h7 h1
  by_cases hc : j < l.length
  · obtain ⟨x, hx⟩ : ∃ x, l[j]? = some x := ⟨l[j], by simp [hc]⟩
    have hw : IntKind.i64.wrap ((j : Int) + 1) = ((j + 1 : Nat) : Int) := by rw [wrap64 (by omega) (by omega)]; omega
    by_cases hk : x.1 = k
    · repeat' first
        | (refine PW.seq ?_)
        | (refine PW.rg (Mof []) mixed (by kernel_rfl) ?_; simp [h9, h8, h7, h1, hc, hx, hk, hw])
        | (refine PW.skip ?_; simp)
        | (refine PW.ret ?_; simp [h9, h8, h7, h1, hc, hx, hk, hw]; done)
        | (refine PW.ret ?_; simp [h9, h8, h7, h1, hc, hx, hk, hw])
        | (refine PW.exit ?_; simp)
        | (refine PW.condV ?_; simp [h9, h8, h7, h1, hc, hx, hk, hw])
        | (refine PW.block ?_)
        | (refine And.intro ?_ ?_)
        | (with_reducible intro _)

      all_goals first | (exfalso; simp_all; done) | (rw [← hf, placeF_drop l k j j x hx, if_pos hk])
    · repeat' first
        | (refine PW.seq ?_)
        | (refine PW.rg (Mof []) mixed (by kernel_rfl) ?_; simp [h9, h8, h7, h1, hc, hx, hk, hw])
        | (refine PW.skip ?_; simp)
        | (refine PW.ret ?_; simp [h9, h8, h7, h1, hc, hx, hk, hw]; done)
        | (refine PW.ret ?_; simp [h9, h8, h7, h1, hc, hx, hk, hw])
        | (refine PW.exit ?_; simp)
        | (refine PW.condV ?_; simp [h9, h8, h7, h1, hc, hx, hk, hw])
        | (refine PW.block ?_)
        | (refine And.intro ?_ ?_)
        | (with_reducible intro _)

      all_goals first | (exfalso; simp_all; done) | (refine ⟨l.length - (j + 1), by omega, j + 1, rfl, by omega, by omega, ?_⟩; rw [← hf, placeF_drop l k j j x hx, if_neg hk])
  · repeat' first
      | (refine PW.seq ?_)
      | (refine PW.rg (Mof []) mixed (by kernel_rfl) ?_; simp [h9, h8, h7, h1, hc])
      | (refine PW.skip ?_; simp)
      | (refine PW.ret ?_; simp [h9, h8, h7, h1, hc]; done)
      | (refine PW.ret ?_; simp [h9, h8, h7, h1, hc])
      | (refine PW.exit ?_; simp)
      | (refine PW.condV ?_; simp [h9, h8, h7, h1, hc])
      | (refine PW.block ?_)
      | (refine And.intro ?_ ?_)
      | (with_reducible intro _)

    all_goals (rw [← hf, List.drop_of_length_le (by omega)]; rfl)
end QT
end

section
set_option linter.unusedSimpArgs false
set_option linter.unusedVariables false
set_option linter.constructorNameAsVariable false
/- The document's list: Has, Pop, without. Printed in part by a program. -/
open Go hiding Id
open Go.Proofs Go.PM
set_option linter.unusedSimpArgs false
set_option linter.unusedVariables false
namespace QT
attribute [local irreducible] PW FL FR FS FB FM FG CallF CallS PC PCS bindK condK

theorem c23 (l : List It) (k : Int) (hl : l.length ≤ 100000) : PC Try.prog 23 [.sl (l.map encI), .v (.int .i64 k)] (.v (.bool (decide (0 ≤ placeF l k 0)))) := by
  refine PC.of' Try.func23 rfl (by simp) ?_
  repeat' first
    | (refine PW.seq ?_)
    | (refine PW.rg (Mof [33]) mixed (by kernel_rfl) ?_; simp [])
    | (refine PW.skip ?_; simp)
    | (refine PW.ret ?_; simp []; done)
    | (refine PW.ret ?_; simp [])
    | (refine PW.exit ?_; simp)
    | (refine PW.condV ?_; simp [])
    | (refine PW.block ?_)
    | (refine CallF.flat (by first | exact c33 _ _ hl) (by simp) ?_; simp [])
    | (refine And.intro ?_ ?_)
    | (with_reducible intro _)


theorem Frz_of {r r' : PV} {σ : Sto} (n : Nat) (h : frz n σ r' = some r) : Frz r r' σ := ⟨n, h⟩

theorem frz_cells {n : Nat} {σ : Sto} (l : List It) : mapO (fun cs => mapO (frz (n + 1) σ) cs) (l.map encI) = some (l.map encI) := by
  refine mapO_self _ fun cs hcs => mapO_self _ fun p hp => ?_
  obtain ⟨x, _, rfl⟩ := List.mem_map.1 hcs
  simp [encI] at hp
  rcases hp with rfl | rfl <;> rfl

theorem mem_enc {l : List It} {x : List PV} (h : x ∈ l.map encI) : x.length = 2 ∧ ∀ p ∈ x, p.one = true := by
  obtain ⟨a, _, rfl⟩ := List.mem_map.1 h
  exact ⟨rfl, by simp⟩
theorem take_len2 (l : List It) (i : Nat) : (∀ (x : List PV), x ∈ List.take i (List.map encI l) → x.length = 2) ↔ True := iff_true_intro fun x h => (mem_enc (List.mem_of_mem_take h)).1
theorem take_one2 (l : List It) (i : Nat) : (∀ (x : List PV), x ∈ List.take i (List.map encI l) → ∀ (x_1 : PV), x_1 ∈ x → x_1.one = true) ↔ True := iff_true_intro fun x h => (mem_enc (List.mem_of_mem_take h)).2
theorem drop_len2 (l : List It) (i : Nat) : (∀ (x : List PV), x ∈ List.drop i (List.map encI l) → x.length = 2) ↔ True := iff_true_intro fun x h => (mem_enc (List.mem_of_mem_drop h)).1
theorem drop_one2 (l : List It) (i : Nat) : (∀ (x : List PV), x ∈ List.drop i (List.map encI l) → ∀ (x_1 : PV), x_1 ∈ x → x_1.one = true) ↔ True := iff_true_intro fun x h => (mem_enc (List.mem_of_mem_drop h)).2

theorem Frz_own {σ : Sto} {id : PM.Id} {e len : Nat} {w : Bool} {l : List It} {es : List (List PV)} (h : σ id = some (.cells es w)) (he : es = l.map encI) (hl : l.length = len) : Frz (.sl (l.map encI)) (.own id e 0 len) σ := by
  subst he
  refine ⟨2, ?_⟩
  have h1 : ((l.map encI).drop 0).take len = l.map encI := by rw [List.drop_zero, List.take_of_length_le (by simp [hl])]
  have h2 := frz_cells (n := 0) (σ := σ) l
  unfold frz
  simp only [h]
  rw [if_pos (by simp [hl]), h1, h2]
  rfl

theorem c34 (l : List It) (i : Nat) (hi : i < l.length) (hl : l.length ≤ 100000) : PC Try.prog 34 [.sl (l.map encI), .v (.int .i64 i)] (.sl ((l.take i ++ l.drop (i + 1)).map encI)) := by
  refine PC.of' Try.func34 rfl (by simp) ?_
  have hw : IntKind.i64.wrap ((i : Int) + 1) = ((i + 1 : Nat) : Int) := by rw [wrap64 (by omega) (by omega)]; omega
  have hil : i ≤ l.length := by omega
  have hil' : i + 1 ≤ l.length := by omega
  have h01 : (0 : Int) ≤ (i : Int) + 1 := by omega
  have h02 : (i : Int) + 1 ≤ (l.length : Int) := by omega
  have htd : List.take (l.length - (i + 1)) (List.drop (i + 1) (l.map encI)) = List.drop (i + 1) (l.map encI) := List.take_of_length_le (by simp)
  have hb1 : i * 16 ≤ 140737488355328 := by omega
  have hb2 : (i + (l.length - (i + 1))) * 16 ≤ 140737488355328 := by omega
  have hz : ((i + 1 : Nat) : Int).toNat = i + 1 := by omega
  have hz' : ((i : Int) + 1).toNat = i + 1 := by omega
  repeat' first
    | (refine PW.seq ?_)
    | (refine PW.rg (Mof []) mixed (by kernel_rfl) ?_; simp [hw, hil, hil', hz, hz', pSlice, pAppend, elemsOf, Option.map, take_len2, take_one2, drop_len2, drop_one2, hb1, hb2, h01, h02, htd, htd])
    | (refine PW.skip ?_; simp)
    | (refine PW.ret ?_; simp [hw, hil, hil', hz, hz', pSlice, pAppend, elemsOf, Option.map, take_len2, take_one2, drop_len2, drop_one2, hb1, hb2, h01, h02, htd, htd]; done)
    | (refine PW.ret ?_; simp [hw, hil, hil', hz, hz', pSlice, pAppend, elemsOf, Option.map, take_len2, take_one2, drop_len2, drop_one2, hb1, hb2, h01, h02, htd, htd])
    | (refine PW.exit ?_; simp)
    | (refine PW.condV ?_; simp [hw, hil, hil', hz, hz', pSlice, pAppend, elemsOf, Option.map, take_len2, take_one2, drop_len2, drop_one2, hb1, hb2, h01, h02, htd, htd])
    | (refine PW.block ?_)
    | (refine And.intro ?_ ?_)
    | (with_reducible intro _)

  have hfin : List.take i (l.map encI) ++ List.drop (i + 1) (l.map encI) = (l.take i ++ l.drop (i + 1)).map encI := by simp
  rw [hfin]
  have hes : List.take i (List.take i (l.map encI)) ++ List.drop (i + 1) (l.map encI) = (l.take i ++ l.drop (i + 1)).map encI := by
    rw [← hfin, List.take_take, Nat.min_self]
  exact Frz_own (w := true) (upd_same _ _ _) hes (by simp; omega)
end QT
end

section
set_option linter.unusedSimpArgs false
set_option linter.unusedVariables false
set_option linter.constructorNameAsVariable false
/- The document's list: Pop, Remove. Printed in part by a program. -/
open Go hiding Id
open Go.Proofs Go.PM
set_option linter.unusedSimpArgs false
set_option linter.unusedVariables false
namespace QT
attribute [local irreducible] PW FL FR FS FB FM FG CallF CallS PC PCS bindK condK

@[simp] theorem frz_enc {n : Nat} {σ : Sto} (x : It) : mapO (frz (n + 1) σ) (encI x) = some (encI x) := by
  simp [encI, frz]

theorem c22_none (l : List It) (k : Int) (hl : l.length ≤ 100000) (hp : placeF l k 0 < 0) : PC Try.prog 22 [.sl (l.map encI), .v (.int .i64 k)] (.tup [.sl (l.map encI), .v (.int .i64 9)]) := by
  refine PC.of' Try.func22 rfl (by simp) ?_
  repeat' first
    | (refine PW.seq ?_)
    | (refine PW.rg (Mof [33, 34]) mixed (by kernel_rfl) ?_; simp [hp])
    | (refine PW.skip ?_; simp)
    | (refine PW.ret ?_; simp [hp]; done)
    | (refine PW.ret ?_; simp [hp])
    | (refine PW.exit ?_; simp)
    | (refine PW.condV ?_; simp [hp])
    | (refine PW.block ?_)
    | (refine CallF.flat (by first | exact c33 _ _ hl) (by simp) ?_; simp [hp])
    | (refine And.intro ?_ ?_)
    | (with_reducible intro _)

  all_goals (exact ⟨4, by simp [frz]⟩)

theorem c22 (l : List It) (k : Int) (i : Nat) (hl : l.length ≤ 100000) (hi : i < l.length) (hp : placeF l k 0 = i) : PC Try.prog 22 [.sl (l.map encI), .v (.int .i64 k)] (.tup [.sl ((l.take i ++ l.drop (i + 1)).map encI), .v (.int .i64 0)]) := by
  refine PC.of' Try.func22 rfl (by simp) ?_
  have c1 := c33 l k hl
  rw [hp] at c1
  have hp' : ¬ (i : Int) < 0 := by omega
  repeat' first
    | (refine PW.seq ?_)
    | (refine PW.rg (Mof [33, 34]) mixed (by kernel_rfl) ?_; simp [hp'])
    | (refine PW.skip ?_; simp)
    | (refine PW.ret ?_; simp [hp']; done)
    | (refine PW.ret ?_; simp [hp'])
    | (refine PW.exit ?_; simp)
    | (refine PW.condV ?_; simp [hp'])
    | (refine PW.block ?_)
    | (refine CallF.flat (by first | exact c1 | exact c34 l i hi hl) (by simp) ?_; simp [hp'])
    | (refine And.intro ?_ ?_)
    | (with_reducible intro _)

  all_goals (exact ⟨4, by simp [frz]⟩)
end QT
end

section
set_option linter.unusedSimpArgs false
set_option linter.unusedVariables false
set_option linter.constructorNameAsVariable false
/- The document's list: with. Printed in part by a program. -/
open Go hiding Id
open Go.Proofs Go.PM
set_option linter.unusedSimpArgs false
set_option linter.unusedVariables false
namespace QT
attribute [local irreducible] PW FL FR FS FB FM FG CallF CallS PC PCS bindK condK

def posL : List It → It → Nat
  | [], _ => 0
  | y :: r, x => if aheadP y x then posL r x + 1 else 0
theorem posL_drop : ∀ (l : List It) (x : It) (j : Nat) (y : It), l[j]? = some y → posL (l.drop j) x = if aheadP y x then posL (l.drop (j + 1)) x + 1 else 0
  | [], x, j, y, h => by simp at h
  | a :: r, x, 0, y, h => by simp at h; subst h; simp [posL]
  | a :: r, x, j + 1, y, h => by simp at h; simpa using posL_drop r x j y h
def withL (l : List It) (x : It) : List It := l.take (posL l x) ++ [x] ++ l.drop (posL l x)

theorem c32 (l : List It) (x : It) (hl : l.length ≤ 100000) : PC Try.prog 32 [.sl (l.map encI), .agg (encI x)] (.sl ((withL l x).map encI)) := by
  refine PC.of' Try.func32 rfl (by simp) ?_
  repeat' first
    | (refine PW.seq ?_)
    | (refine PW.rg (Mof []) mixed (by kernel_rfl) ?_; simp [])
    | (refine PW.skip ?_; simp)
    | (refine PW.ret ?_; simp []; done)
    | (refine PW.ret ?_; simp [])
    | (refine PW.exit ?_; simp)
    | (refine PW.condV ?_; simp [])
    | (refine PW.block ?_)
    | (refine And.intro ?_ ?_)
    | (with_reducible intro _)

  refine PW.loop (fun n s => ∃ j : Nat, n = l.length - j ∧ j ≤ l.length ∧ s.t 5 = .v (.int .i64 j) ∧ s.t 0 = .sl (l.map encI) ∧ s.t 3 = .ptr [0, 0] 0 0 ∧ s.σ [0, 0] = some (.cells [encI x] true) ∧ posL l x = j + posL (l.drop j) x) l.length ?_ ?_
  · exact ⟨0, by simp⟩
  rintro n ⟨t, σ, c⟩ ⟨j, hn, hj, h5, h0, h3, hσ, hf⟩
  simp only at h5 h0 h3 hσ
  have hb1 : j * 16 ≤ 140737488355328 := by omega
  have hb2 : (j + 1) * 16 ≤ 140737488355328 := by omega
  have hb3 : (j + 1 + (l.length - j)) * 16 ≤ 140737488355328 := by omega
  have hjl : j ≤ l.length := hj
  have htd : List.take (l.length - j) (List.drop j (l.map encI)) = List.drop j (l.map encI) := List.take_of_length_le (by simp)
  by_cases hc : j < l.length
  · obtain ⟨y, hyy⟩ : ∃ y, l[j] = y := ⟨_, rfl⟩
    have hy : l[j]? = some y := by simp [hc, hyy]
    have hw : IntKind.i64.wrap ((j : Int) + 1) = ((j + 1 : Nat) : Int) := by rw [wrap64 (by omega) (by omega)]; omega
    rw [posL_drop l x j y hy] at hf
    by_cases ha : aheadP y x
    · rw [if_pos ha] at hf
      repeat' first
        | (refine PW.seq ?_)
        | (refine PW.rg (Mof [41]) mixed (by kernel_rfl) ?_; simp [h5, h0, h3, hσ, hc, hyy, ha, hw])
        | (refine PW.skip ?_; simp)
        | (refine PW.ret ?_; simp [h5, h0, h3, hσ, hc, hyy, ha, hw]; done)
        | (refine PW.ret ?_; simp [h5, h0, h3, hσ, hc, hyy, ha, hw])
        | (refine PW.exit ?_; simp)
        | (refine PW.condV ?_; simp [h5, h0, h3, hσ, hc, hyy, ha, hw])
        | (refine PW.block ?_)
        | (refine CallF.flat (by first | exact c41 _ _) (by simp) ?_; simp [h5, h0, h3, hσ, hc, hyy, ha, hw])
        | (refine And.intro ?_ ?_)
        | (with_reducible intro _)

      all_goals first | (exfalso; simp_all; done) | (refine ⟨l.length - (j + 1), by omega, j + 1, rfl, by omega, by omega, by omega⟩)
    · rw [if_neg ha] at hf
      repeat' first
        | (refine PW.seq ?_)
        | (refine PW.rg (Mof [41]) mixed (by kernel_rfl) ?_; simp [h5, h0, h3, hσ, hc, hyy, ha, hw, pSlice, pAppend, pBuildSlice, elemsOf, Option.map, List.replicate, List.range, List.range.loop, take_len2, take_one2, drop_len2, drop_one2, hb1, hb2, hb3, hjl, htd])
        | (refine PW.skip ?_; simp)
        | (refine PW.ret ?_; simp [h5, h0, h3, hσ, hc, hyy, ha, hw, pSlice, pAppend, pBuildSlice, elemsOf, Option.map, List.replicate, List.range, List.range.loop, take_len2, take_one2, drop_len2, drop_one2, hb1, hb2, hb3, hjl, htd]; done)
        | (refine PW.ret ?_; simp [h5, h0, h3, hσ, hc, hyy, ha, hw, pSlice, pAppend, pBuildSlice, elemsOf, Option.map, List.replicate, List.range, List.range.loop, take_len2, take_one2, drop_len2, drop_one2, hb1, hb2, hb3, hjl, htd])
        | (refine PW.exit ?_; simp)
        | (refine PW.condV ?_; simp [h5, h0, h3, hσ, hc, hyy, ha, hw, pSlice, pAppend, pBuildSlice, elemsOf, Option.map, List.replicate, List.range, List.range.loop, take_len2, take_one2, drop_len2, drop_one2, hb1, hb2, hb3, hjl, htd])
        | (refine PW.block ?_)
        | (refine CallF.flat (by first | exact c41 _ _) (by simp) ?_; simp [h5, h0, h3, hσ, hc, hyy, ha, hw, pSlice, pAppend, pBuildSlice, elemsOf, Option.map, List.replicate, List.range, List.range.loop, take_len2, take_one2, drop_len2, drop_one2, hb1, hb2, hb3, hjl, htd])
        | (refine And.intro ?_ ?_)
        | (with_reducible intro _)

      rw [Nat.add_zero] at hf
      have hA : List.take (j + 1) (List.take j (List.take j (l.map encI)) ++ [encI x]) = List.take j (l.map encI) ++ [encI x] := by
        rw [List.take_take, Nat.min_self, List.take_of_length_le (by simp; omega)]
      have hes : List.take (j + 1) (List.take j (List.take j (l.map encI)) ++ [encI x]) ++ List.drop j (l.map encI) = (withL l x).map encI := by
        rw [hA, withL, hf]; simp
      exact Frz_own (w := true) (upd_same _ _ _) hes (by rw [withL, hf]; simp; omega)
  · rw [List.drop_of_length_le (by omega)] at hf
    have hf : posL l x = j := hf
    repeat' first
      | (refine PW.seq ?_)
      | (refine PW.rg (Mof [41]) mixed (by kernel_rfl) ?_; simp [h5, h0, h3, hσ, hc, pSlice, pAppend, pBuildSlice, elemsOf, Option.map, List.replicate, List.range, List.range.loop, take_len2, take_one2, drop_len2, drop_one2, hb1, hb2, hb3, hjl, htd])
      | (refine PW.skip ?_; simp)
      | (refine PW.ret ?_; simp [h5, h0, h3, hσ, hc, pSlice, pAppend, pBuildSlice, elemsOf, Option.map, List.replicate, List.range, List.range.loop, take_len2, take_one2, drop_len2, drop_one2, hb1, hb2, hb3, hjl, htd]; done)
      | (refine PW.ret ?_; simp [h5, h0, h3, hσ, hc, pSlice, pAppend, pBuildSlice, elemsOf, Option.map, List.replicate, List.range, List.range.loop, take_len2, take_one2, drop_len2, drop_one2, hb1, hb2, hb3, hjl, htd])
      | (refine PW.exit ?_; simp)
      | (refine PW.condV ?_; simp [h5, h0, h3, hσ, hc, pSlice, pAppend, pBuildSlice, elemsOf, Option.map, List.replicate, List.range, List.range.loop, take_len2, take_one2, drop_len2, drop_one2, hb1, hb2, hb3, hjl, htd])
      | (refine PW.block ?_)
      | (refine And.intro ?_ ?_)
      | (with_reducible intro _)

    have hA : List.take (j + 1) (List.take j (List.take j (l.map encI)) ++ [encI x]) = List.take j (l.map encI) ++ [encI x] := by
      rw [List.take_take, Nat.min_self, List.take_of_length_le (by simp; omega)]
    have hes : List.take (j + 1) (List.take j (List.take j (l.map encI)) ++ [encI x]) ++ List.drop j (l.map encI) = (withL l x).map encI := by
      rw [hA, withL, hf]; simp
    exact Frz_own (w := true) (upd_same _ _ _) hes (by rw [withL, hf]; simp; omega)
end QT
end

section
set_option linter.unusedSimpArgs false
set_option linter.unusedVariables false
set_option linter.constructorNameAsVariable false
/- The document's list: Push, Fix. Printed in part by a program. -/
open Go hiding Id
open Go.Proofs Go.PM
set_option linter.unusedSimpArgs false
set_option linter.unusedVariables false
namespace QT
attribute [local irreducible] PW FL FR FS FB FM FG CallF CallS PC PCS bindK condK

theorem c19_has (l : List It) (x : It) (hl : l.length ≤ 100000) (hp : 0 ≤ placeF l x.1 0) : PC Try.prog 19 [.sl (l.map encI), .v (.int .i64 x.1), .v (.int .i64 x.2)] (.tup [.sl (l.map encI), .v (.int .i64 6)]) := by
  refine PC.of' Try.func19 rfl (by simp) ?_
  have c1 := c23 l x.1 hl
  simp only [hp, decide_true] at c1
  repeat' first
    | (refine PW.seq ?_)
    | (refine PW.rg (Mof [23, 32]) mixed (by kernel_rfl) ?_; simp [])
    | (refine PW.skip ?_; simp)
    | (refine PW.ret ?_; simp []; done)
    | (refine PW.ret ?_; simp [])
    | (refine PW.exit ?_; simp)
    | (refine PW.condV ?_; simp [])
    | (refine PW.block ?_)
    | (refine CallF.flat (by first | exact c1) (by simp) ?_; simp [])
    | (refine And.intro ?_ ?_)
    | (with_reducible intro _)

  all_goals (exact ⟨4, by simp [frz]⟩)

theorem c19_full (l : List It) (x : It) (hl : l.length ≤ 100000) (hp : ¬ 0 ≤ placeF l x.1 0) (hf : 4096 ≤ l.length) : PC Try.prog 19 [.sl (l.map encI), .v (.int .i64 x.1), .v (.int .i64 x.2)] (.tup [.sl (l.map encI), .v (.int .i64 10)]) := by
  refine PC.of' Try.func19 rfl (by simp) ?_
  have c1 := c23 l x.1 hl
  simp only [hp, decide_false] at c1
  have hf' : (4096 : Int) ≤ (l.length : Int) := by omega
  repeat' first
    | (refine PW.seq ?_)
    | (refine PW.rg (Mof [23, 32]) mixed (by kernel_rfl) ?_; simp [hf'])
    | (refine PW.skip ?_; simp)
    | (refine PW.ret ?_; simp [hf']; done)
    | (refine PW.ret ?_; simp [hf'])
    | (refine PW.exit ?_; simp)
    | (refine PW.condV ?_; simp [hf'])
    | (refine PW.block ?_)
    | (refine CallF.flat (by first | exact c1) (by simp) ?_; simp [hf'])
    | (refine And.intro ?_ ?_)
    | (with_reducible intro _)

  all_goals (exact ⟨4, by simp [frz]⟩)

theorem c19_ok (l : List It) (x : It) (hl : l.length ≤ 100000) (hp : ¬ 0 ≤ placeF l x.1 0) (hf : l.length < 4096) : PC Try.prog 19 [.sl (l.map encI), .v (.int .i64 x.1), .v (.int .i64 x.2)] (.tup [.sl ((withL l x).map encI), .v (.int .i64 0)]) := by
  refine PC.of' Try.func19 rfl (by simp) ?_
  have c1 := c23 l x.1 hl
  simp only [hp, decide_false] at c1
  have hf' : ¬ (4096 : Int) ≤ (l.length : Int) := by omega
  repeat' first
    | (refine PW.seq ?_)
    | (refine PW.rg (Mof [23, 32]) mixed (by kernel_rfl) ?_; simp [hf'])
    | (refine PW.skip ?_; simp)
    | (refine PW.ret ?_; simp [hf']; done)
    | (refine PW.ret ?_; simp [hf'])
    | (refine PW.exit ?_; simp)
    | (refine PW.condV ?_; simp [hf'])
    | (refine PW.block ?_)
    | (refine CallF.flat (by first | exact c1 | exact c32 l x hl) (by simp) ?_; simp [hf'])
    | (refine And.intro ?_ ?_)
    | (with_reducible intro _)

  all_goals (exact ⟨4, by simp [frz]⟩)
end QT
end

section
set_option linter.unusedSimpArgs false
set_option linter.unusedVariables false
set_option linter.constructorNameAsVariable false
/- The document's list: Fix, Pop. Printed in part by a program. -/
open Go hiding Id
open Go.Proofs Go.PM
set_option linter.unusedSimpArgs false
set_option linter.unusedVariables false
namespace QT
attribute [local irreducible] PW FL FR FS FB FM FG CallF CallS PC PCS bindK condK

theorem c21_none (l : List It) (x : It) (hl : l.length ≤ 100000) (hp : placeF l x.1 0 < 0) : PC Try.prog 21 [.sl (l.map encI), .v (.int .i64 x.1), .v (.int .i64 x.2)] (.tup [.sl (l.map encI), .v (.int .i64 9)]) := by
  refine PC.of' Try.func21 rfl (by simp) ?_
  repeat' first
    | (refine PW.seq ?_)
    | (refine PW.rg (Mof [33, 34, 32]) mixed (by kernel_rfl) ?_; simp [hp])
    | (refine PW.skip ?_; simp)
    | (refine PW.ret ?_; simp [hp]; done)
    | (refine PW.ret ?_; simp [hp])
    | (refine PW.exit ?_; simp)
    | (refine PW.condV ?_; simp [hp])
    | (refine PW.block ?_)
    | (refine CallF.flat (by first | exact c33 _ _ hl) (by simp) ?_; simp [hp])
    | (refine And.intro ?_ ?_)
    | (with_reducible intro _)

  all_goals (exact ⟨4, by simp [frz]⟩)

theorem c21 (l : List It) (x : It) (i : Nat) (hl : l.length ≤ 100000) (hi : i < l.length) (hp : placeF l x.1 0 = i) : PC Try.prog 21 [.sl (l.map encI), .v (.int .i64 x.1), .v (.int .i64 x.2)] (.tup [.sl ((withL (l.take i ++ l.drop (i + 1)) x).map encI), .v (.int .i64 0)]) := by
  refine PC.of' Try.func21 rfl (by simp) ?_
  have c1 := c33 l x.1 hl
  rw [hp] at c1
  have hp' : ¬ (i : Int) < 0 := by omega
  have c2 := c34 l i hi hl
  have c3 := c32 (l.take i ++ l.drop (i + 1)) x (by simp; omega)
  generalize l.take i ++ l.drop (i + 1) = l' at *
  repeat' first
    | (refine PW.seq ?_)
    | (refine PW.rg (Mof [33, 34, 32]) mixed (by kernel_rfl) ?_; simp [hp'])
    | (refine PW.skip ?_; simp)
    | (refine PW.ret ?_; simp [hp']; done)
    | (refine PW.ret ?_; simp [hp'])
    | (refine PW.exit ?_; simp)
    | (refine PW.condV ?_; simp [hp'])
    | (refine PW.block ?_)
    | (refine CallF.flat (by first | exact c1 | exact c2 | exact c3) (by simp) ?_; simp [hp'])
    | (refine And.intro ?_ ?_)
    | (with_reducible intro _)

  all_goals (exact ⟨4, by simp [frz]⟩)

theorem c20_none : PC Try.prog 20 [.sl []] (.tup [.agg (encI (0, 0)), .sl [], .v (.int .i64 9)]) := by
  refine PC.of' Try.func20 rfl (by simp) ?_
  repeat' first
    | (refine PW.seq ?_)
    | (refine PW.rg (Mof []) mixed (by kernel_rfl) ?_; simp [encI])
    | (refine PW.skip ?_; simp)
    | (refine PW.ret ?_; simp [encI]; done)
    | (refine PW.ret ?_; simp [encI])
    | (refine PW.exit ?_; simp)
    | (refine PW.condV ?_; simp [encI])
    | (refine PW.block ?_)
    | (refine And.intro ?_ ?_)
    | (with_reducible intro _)

  all_goals (exact ⟨4, by simp [frz, encI]⟩)

theorem c20 (x : It) (l : List It) (hl : l.length ≤ 100000) : PC Try.prog 20 [.sl ((x :: l).map encI)] (.tup [.agg (encI x), .sl (l.map encI), .v (.int .i64 0)]) := by
  refine PC.of' Try.func20 rfl (by simp) ?_
  have h1 : ¬ ((l.length : Int) + 1 = 0) := by omega
  have h2 : (1 : Int) ≤ (l.length : Int) + 1 := by omega
  have h3 : List.take l.length (l.map encI) = l.map encI := List.take_of_length_le (by simp)
  repeat' first
    | (refine PW.seq ?_)
    | (refine PW.rg (Mof []) mixed (by kernel_rfl) ?_; simp [h1, h2, h3, pSlice, Option.map])
    | (refine PW.skip ?_; simp)
    | (refine PW.ret ?_; simp [h1, h2, h3, pSlice, Option.map]; done)
    | (refine PW.ret ?_; simp [h1, h2, h3, pSlice, Option.map])
    | (refine PW.exit ?_; simp)
    | (refine PW.condV ?_; simp [h1, h2, h3, pSlice, Option.map])
    | (refine PW.block ?_)
    | (refine And.intro ?_ ?_)
    | (with_reducible intro _)

  all_goals (exact ⟨4, (flat_frz 4 (p := .tup [.agg (encI x), .sl (l.map encI), .v (.int .i64 0)]) (by simp)).1⟩)
end QT
end

section
set_option linter.unusedSimpArgs false
set_option linter.unusedVariables false
set_option linter.constructorNameAsVariable false
/- The heap's order: push, pop, remove and fix keep it. Plain. -/
open Go hiding Id
open Go.Proofs Go.PM
namespace QT

def leI (x y : It) : Prop := x.2 < y.2 ∨ x.2 = y.2 ∧ x.1 ≤ y.1
instance (x y : It) : Decidable (leI x y) := inferInstanceAs (Decidable (_ ∨ _))
theorem lt_iff (x y : It) : cmpI x y < 0 ↔ aheadP x y := by
  unfold cmpI cmp3 aheadP
  (repeat' split) <;> omega
theorem leI_of_lt {x y : It} (h : cmpI x y < 0) : leI x y := by
  rw [lt_iff] at h; unfold aheadP at h; unfold leI; omega
theorem leI_of_not {x y : It} (h : ¬ cmpI x y < 0) : leI y x := by
  rw [lt_iff] at h; unfold aheadP at h; unfold leI; omega
theorem leI_trans {x y z : It} (h : leI x y) (k : leI y z) : leI x z := by
  unfold leI at *; omega
theorem leI_refl (x : It) : leI x x := by unfold leI; omega
theorem leI_anti {x y : It} (h : leI x y) (k : leI y x) : x = y := by
  unfold leI at *
  apply Prod.ext <;> omega
theorem leI_total (x y : It) : leI x y ∨ leI y x := by unfold leI; omega

def gI (l : List It) (i : Nat) : It := l.getD i (0, 0)
theorem gI_eq {l : List It} {i : Nat} (h : i < l.length) : gI l i = l[i] := by simp [gI, h]
theorem gI_swap {l : List It} {i j : Nat} (hi : i < l.length) (hj : j < l.length) (k : Nat) : gI (swapG l i j) k = if k = j then gI l i else if k = i then gI l j else gI l k := by
  rw [swapG_eq hi hj]
  unfold gI
  rw [List.getD_eq_getElem?_getD, swapL_get hi hj]
  split
  · simp [hi]
  · split
    · simp [hj]
    · rw [List.getD_eq_getElem?_getD]
theorem len_swap {l : List It} (i j : Nat) : (swapG l i j).length = l.length := (swapG_perm l i j).length_eq

/-- The edge above the place k. -/
def Ed (l : List It) (k : Nat) : Prop := leI (gI l ((k - 1) / 2)) (gI l k)
def Heap (l : List It) (n : Nat) : Prop := ∀ k, 0 < k → k < n → Ed l k

theorem down_ok : ∀ (f : Nat) (l : List It) (i n : Nat), n ≤ l.length → n ≤ f + i → (∀ k, 0 < k → k < n → (k - 1) / 2 ≠ i → k ≠ i → Ed l k) → (∀ k, 0 < k → k < n → (k - 1) / 2 = i → 0 < i → leI (gI l ((i - 1) / 2)) (gI l k)) →
    ((downL f l i n).2 = i ∧ (downL f l i n).1 = l ∧ ∀ k, 0 < k → k < n → (k - 1) / 2 = i → Ed l k) ∨ (i < (downL f l i n).2 ∧ Heap (downL f l i n).1 n)
  | 0, l, i, n, _, hf, _, _ => .inl ⟨rfl, rfl, fun k h0 hk hp => by omega⟩
  | f + 1, l, i, n, hn, hf, h1, h2 => by
    by_cases hs : n ≤ 2 * i + 1
    · left
      rw [downL_stop hs]
      exact ⟨rfl, rfl, fun k h0 hk hp => by omega⟩
    · have hi : i < l.length := by omega
      have hk : (kid l i n = 2 * i + 1 ∨ kid l i n = 2 * i + 2) ∧ kid l i n < n ∧ ∀ k, 0 < k → k < n → (k - 1) / 2 = i → leI (gI l (kid l i n)) (gI l k) := by
        unfold kid
        split
        · rename_i hc
          obtain ⟨hc1, hc2⟩ := hc
          rw [lessG_eq (by omega) (by omega), decide_eq_true_eq] at hc2
          refine ⟨.inr rfl, hc1, fun k h0 hk hp => ?_⟩
          have : k = 2 * i + 1 ∨ k = 2 * i + 1 + 1 := by omega
          rcases this with rfl | rfl
          · rw [gI_eq (by omega), gI_eq (by omega)]; exact leI_of_lt hc2
          · exact leI_refl _
        · rename_i hc
          refine ⟨.inl rfl, by omega, fun k h0 hk hp => ?_⟩
          have : k = 2 * i + 1 ∨ k = 2 * i + 1 + 1 := by omega
          rcases this with rfl | rfl
          · exact leI_refl _
          · have hc2 : ¬ lessG l (2 * i + 1 + 1) (2 * i + 1) = true := fun h => hc ⟨hk, h⟩
            rw [lessG_eq (by omega) (by omega), decide_eq_true_eq] at hc2
            rw [gI_eq (by omega), gI_eq (by omega)]; exact leI_of_not hc2
      generalize hj : kid l i n = j at hk
      obtain ⟨hj1, hjn, hmin⟩ := hk
      have hjp : (j - 1) / 2 = i := by omega
      by_cases hl : lessG l j i = true
      · rw [downL, if_neg hs, hj, if_pos hl]
        rw [lessG_eq (by omega) hi, decide_eq_true_eq] at hl
        have hg := gI_swap hi (show j < l.length by omega)
        have hle : leI (gI l j) (gI l i) := by rw [gI_eq (by omega), gI_eq hi]; exact leI_of_lt hl
        have hE1 : ∀ k, 0 < k → k < n → (k - 1) / 2 ≠ j → k ≠ j → Ed (swapG l i j) k := by
          intro k h0 hk hp hkj
          unfold Ed
          rw [hg, hg]
          rw [if_neg hp, if_neg hkj]
          by_cases hki : k = i
          · subst hki
            rw [if_neg (by omega), if_pos rfl]
            exact h2 j (by omega) hjn hjp h0
          · rw [if_neg hki]
            by_cases hpi : (k - 1) / 2 = i
            · rw [if_pos hpi]; exact hmin k h0 hk hpi
            · rw [if_neg hpi]; exact h1 k h0 hk hpi hki
        have hE2 : ∀ k, 0 < k → k < n → (k - 1) / 2 = j → 0 < j → leI (gI (swapG l i j) ((j - 1) / 2)) (gI (swapG l i j) k) := by
          intro k h0 hk hp _
          rw [hg, hg, hjp, if_neg (by omega), if_pos rfl, if_neg (by omega), if_neg (by omega)]
          have := h1 k h0 hk (by omega) (by omega)
          unfold Ed at this
          rw [hp] at this
          exact this
        right
        rcases down_ok f (swapG l i j) j n (by rw [len_swap]; exact hn) (by omega) hE1 hE2 with ⟨r1, r2, r3⟩ | ⟨r1, r2⟩
        · refine ⟨by omega, ?_⟩
          rw [r2]
          intro k h0 hk
          by_cases hp : (k - 1) / 2 = j
          · exact r3 k h0 hk hp
          · by_cases hkj : k = j
            · subst hkj
              unfold Ed
              rw [hg, hg, hjp, if_neg (by omega), if_pos rfl, if_pos rfl]
              exact hle
            · exact hE1 k h0 hk hp hkj
        · exact ⟨by omega, r2⟩
      · rw [downL, if_neg hs, hj, if_neg hl]
        left
        rw [lessG_eq (by omega) hi, decide_eq_true_eq] at hl
        refine ⟨rfl, rfl, fun k h0 hk hp => ?_⟩
        unfold Ed
        rw [hp]
        refine leI_trans ?_ (hmin k h0 hk hp)
        rw [gI_eq hi, gI_eq (by omega)]
        exact leI_of_not hl

theorem up_ok : ∀ (f : Nat) (l : List It) (j n : Nat), j < n → n ≤ l.length → j < f → (∀ k, 0 < k → k < n → k ≠ j → Ed l k) → (∀ k, 0 < k → k < n → (k - 1) / 2 = j → 0 < j → leI (gI l ((j - 1) / 2)) (gI l k)) → Heap (upL f l j) n
  | 0, l, j, n, _, _, hf, _, _ => by omega
  | f + 1, l, j, n, hj, hn, hf, h1, h2 => by
    unfold upL
    by_cases h0 : (j - 1) / 2 = j
    · rw [if_pos h0]
      intro k hk0 hk
      exact h1 k hk0 hk (by omega)
    · rw [if_neg h0]
      have hi : (j - 1) / 2 < l.length := by omega
      generalize hp : (j - 1) / 2 = p at *
      by_cases hl : lessG l j p = true
      · rw [if_pos hl]
        rw [lessG_eq (by omega) hi, decide_eq_true_eq] at hl
        have hle : leI (gI l j) (gI l p) := by rw [gI_eq (by omega), gI_eq hi]; exact leI_of_lt hl
        have hg := gI_swap hi (show j < l.length by omega)
        refine up_ok f (swapG l p j) p n (by omega) (by rw [len_swap]; exact hn) (by omega) (fun k hk0 hk hkp => ?_) (fun k hk0 hk hkp hp0 => ?_)
        · unfold Ed
          rw [hg, hg]
          by_cases hkj : k = j
          · subst hkj
            rw [hp, if_neg h0, if_pos rfl, if_pos rfl]
            exact hle
          · rw [if_neg hkj, if_neg hkp]
            by_cases hkc : (k - 1) / 2 = j
            · rw [if_pos hkc]; exact h2 k hk0 hk hkc (by omega)
            · rw [if_neg hkc]
              by_cases hkq : (k - 1) / 2 = p
              · rw [if_pos hkq]
                have := h1 k hk0 hk hkj
                unfold Ed at this
                rw [hkq] at this
                exact leI_trans hle this
              · rw [if_neg hkq]; exact h1 k hk0 hk hkj
        · rw [hg, hg]
          have hpp := h1 p hp0 (by omega) (by omega)
          unfold Ed at hpp
          rw [if_neg (by omega), if_neg (by omega)]
          by_cases hkj : k = j
          · rw [if_pos hkj]; exact hpp
          · rw [if_neg hkj, if_neg (by omega)]
            have := h1 k hk0 hk hkj
            unfold Ed at this
            rw [hkp] at this
            exact leI_trans hpp this
      · rw [if_neg hl]
        rw [lessG_eq (by omega) hi, decide_eq_true_eq] at hl
        intro k hk0 hk
        by_cases hkj : k = j
        · subst hkj
          unfold Ed
          rw [hp, gI_eq hi, gI_eq (by omega)]
          exact leI_of_not hl
        · exact h1 k hk0 hk hkj

theorem heap_low {l : List It} {n : Nat} (h : Heap l n) : ∀ k, k < n → leI (gI l 0) (gI l k) := by
  intro k
  induction k using Nat.strongRecOn with
  | _ k ih =>
    intro hk
    by_cases h0 : k = 0
    · subst h0; exact leI_refl _
    · exact leI_trans (ih ((k - 1) / 2) (by omega) (by omega)) (h k (by omega) hk)

theorem heap_nil : Heap [] 0 := fun k _ h => by omega
theorem heap_congr {l l' : List It} {n : Nat} (h : Heap l n) (he : ∀ k, k < n → gI l' k = gI l k) : Heap l' n := by
  intro k h0 hk
  unfold Ed
  rw [he k hk, he _ (by omega)]
  exact h k h0 hk

theorem heap_push {l : List It} (h : Heap l l.length) (x : It) : Heap (upL (l.length + 1) (l ++ [x]) l.length) (l.length + 1) := by
  refine up_ok _ _ _ _ (by omega) (by simp) (by omega) (fun k h0 hk hne => ?_) (fun k h0 hk hp _ => by omega)
  have he : ∀ k, k < l.length → gI (l ++ [x]) k = gI l k := fun k hk => by
    unfold gI; rw [List.getD_eq_getElem?_getD, List.getElem?_append_left hk, ← List.getD_eq_getElem?_getD]
  unfold Ed
  rw [he k (by omega), he _ (by omega)]
  exact h k h0 (by omega)

theorem gI_dropLast {l : List It} {k : Nat} (h : k < l.length - 1) : gI l.dropLast k = gI l k := by
  unfold gI
  rw [List.getD_eq_getElem?_getD, List.getElem?_dropLast, if_pos h, ← List.getD_eq_getElem?_getD]

theorem down_fix : ∀ (f : Nat) (l : List It) (i n k : Nat), n ≤ l.length → i < l.length → n ≤ k → k ≠ i → gI (downL f l i n).1 k = gI l k
  | 0, l, i, n, k, _, _, _, _ => rfl
  | f + 1, l, i, n, k, hn, hi, hk, hne => by
    unfold downL
    split
    · rfl
    · rename_i hs
      split
      · rename_i hl
        have hj : kid l i n < n := by unfold kid; split <;> omega
        rw [down_fix f _ _ n k (by rw [len_swap]; exact hn) (by rw [len_swap]; omega) hk (by omega), gI_swap hi (by omega), if_neg (by omega), if_neg hne]
      · rfl

theorem up_fix : ∀ (f : Nat) (l : List It) (j k : Nat), j < l.length → j < k → gI (upL f l j) k = gI l k
  | 0, l, j, k, _, _ => rfl
  | f + 1, l, j, k, hj, hk => by
    unfold upL
    split
    · rfl
    · split
      · rw [up_fix f _ _ k (by rw [len_swap]; omega) (by omega), gI_swap (by omega) hj, if_neg (by omega), if_neg (by omega)]
      · rfl

/-- Pop: the last item is the least, what is ahead of it a heap. -/
theorem heap_pop {l : List It} (h : Heap l l.length) (h0 : 0 < l.length) : Heap (popL l).dropLast (l.length - 1) ∧ gI (popL l) (l.length - 1) = gI l 0 := by
  have hg := gI_swap h0 (show l.length - 1 < l.length by omega)
  have hE : ∀ k, 0 < k → k < l.length - 1 → (k - 1) / 2 ≠ 0 → k ≠ 0 → Ed (swapG l 0 (l.length - 1)) k := by
    intro k k0 hk hp _
    unfold Ed
    rw [hg, hg, if_neg (by omega), if_neg hp, if_neg (by omega), if_neg (by omega)]
    exact h k k0 (by omega)
  refine ⟨heap_congr ?_ (fun k hk => gI_dropLast (by rw [popL_len]; exact hk)), ?_⟩
  · unfold popL
    rcases down_ok (l.length - 1) (swapG l 0 (l.length - 1)) 0 (l.length - 1) (by rw [len_swap]; omega) (by omega) hE (fun k k0 hk hp h => by omega) with ⟨r1, r2, r3⟩ | ⟨_, r2⟩
    · rw [r2]
      intro k k0 hk
      by_cases hp : (k - 1) / 2 = 0
      · exact r3 k k0 hk hp
      · exact hE k k0 hk hp (by omega)
    · exact r2
  · unfold popL
    by_cases h1 : l.length = 1
    · rw [downL_stop (by omega), hg]; simp
    · rw [down_fix _ _ _ _ _ (by rw [len_swap]; omega) (by rw [len_swap]; omega) (by omega) (by omega), hg, if_pos rfl]

/-- The edges but those at i, and those from above i past it. -/
theorem heap_move {l : List It} {i n : Nat} (hn : n ≤ l.length) (hi : i < n) (h1 : ∀ k, 0 < k → k < n → (k - 1) / 2 ≠ i → k ≠ i → Ed l k) (h2 : ∀ k, 0 < k → k < n → (k - 1) / 2 = i → 0 < i → leI (gI l ((i - 1) / 2)) (gI l k)) :
    Heap (if i < (downL n l i n).2 then (downL n l i n).1 else upL (i + 1) (downL n l i n).1 i) n := by
  rcases down_ok n l i n hn (by omega) h1 h2 with ⟨r1, r2, r3⟩ | ⟨r1, r2⟩
  · rw [r1, r2, if_neg (by omega)]
    refine up_ok _ _ _ _ hi hn (by omega) (fun k k0 hk hne => ?_) h2
    by_cases hp : (k - 1) / 2 = i
    · exact r3 k k0 hk hp
    · exact h1 k k0 hk hp hne
  · rw [if_pos r1]; exact r2

theorem heap_fix {l : List It} (h : Heap l l.length) {i : Nat} (hi : i < l.length) (x : It) : Heap (fixL (l.set i x) i) l.length := by
  have hg : ∀ k, k ≠ i → gI (l.set i x) k = gI l k := fun k hk => by
    unfold gI
    rw [List.getD_eq_getElem?_getD, List.getElem?_set_ne (by omega), ← List.getD_eq_getElem?_getD]
  have := heap_move (l := l.set i x) (i := i) (n := (l.set i x).length) (Nat.le_refl _) (by simpa using hi) (fun k k0 hk hp hne => by
    unfold Ed
    rw [hg _ hp, hg _ hne]
    exact h k k0 (by simpa using hk)) (fun k k0 hk hp i0 => by
    rw [hg _ (by omega), hg _ (by omega)]
    simp at hk
    have a := h k k0 hk
    have b := h i i0 hi
    unfold Ed at a b
    rw [hp] at a
    exact leI_trans b a)
  unfold fixL
  simpa using this

theorem heap_rm {l : List It} (h : Heap l l.length) {i : Nat} (hi : i < l.length) : Heap (rmL l i).dropLast (l.length - 1) ∧ gI (rmL l i) (l.length - 1) = gI l i := by
  unfold rmL
  by_cases he : l.length - 1 = i
  · rw [if_pos he]
    refine ⟨heap_congr (l := l) (fun k k0 hk => h k k0 (by omega)) (fun k hk => gI_dropLast hk), by rw [he]⟩
  · rw [if_neg he]
    have hg := gI_swap hi (show l.length - 1 < l.length by omega)
    have hm := heap_move (l := swapG l i (l.length - 1)) (i := i) (n := l.length - 1) (by rw [len_swap]; omega) (by omega) (fun k k0 hk hp hne => by
      unfold Ed
      rw [hg, hg, if_neg (by omega), if_neg hp, if_neg (by omega), if_neg hne]
      exact h k k0 (by omega)) (fun k k0 hk hp i0 => by
      rw [hg, hg, if_neg (by omega), if_neg (by omega), if_neg (by omega), if_neg (by omega)]
      have a := h k k0 (by omega)
      have b := h i i0 hi
      unfold Ed at a b
      rw [hp] at a
      exact leI_trans b a)
    have hlen : ∀ (l' : List It), (if i < (downL (l.length - 1) (swapG l i (l.length - 1)) i (l.length - 1)).2 then (downL (l.length - 1) (swapG l i (l.length - 1)) i (l.length - 1)).1 else upL (i + 1) (downL (l.length - 1) (swapG l i (l.length - 1)) i (l.length - 1)).1 i) = l' → l'.length = l.length := by
      rintro _ rfl
      split
      · rw [(downL_perm _ _ _ _).length_eq, len_swap]
      · rw [(upL_perm _ _ _).length_eq, (downL_perm _ _ _ _).length_eq, len_swap]
    refine ⟨heap_congr hm (fun k hk => gI_dropLast (by rw [hlen _ rfl]; exact hk)), ?_⟩
    have hd : gI (downL (l.length - 1) (swapG l i (l.length - 1)) i (l.length - 1)).1 (l.length - 1) = gI l i := by
      rw [down_fix _ _ _ _ _ (by rw [len_swap]; omega) (by rw [len_swap]; omega) (by omega) (by omega), hg, if_pos rfl]
    split
    · exact hd
    · rw [up_fix _ _ _ _ (by rw [(downL_perm _ _ _ _).length_eq, len_swap]; omega) (by omega)]; exact hd

end QT
end

