/- A logic of the model's text over values without addresses, and what the functions that the law reaches come to. Conditions: none. -/
import Derived.Test.YtnlkioiaodloeaaPart1
section
set_option linter.unusedSimpArgs false
set_option linter.unusedVariables false
set_option linter.constructorNameAsVariable false
/- The rewriting rules by which a region is evaluated. -/
namespace Go.PM
open Go Go.RowKit

/-- A value made, then the rest. -/
def FB (o : Option PV) (d : Option Tmp) (t : Nat → PV) (σ : Sto) (c : Nat) (K : PSt → Prop) : Prop := bindK o fun v => K ⟨putT t d v, σ, c⟩
def FM (o : Option (PV × SAct)) (id : Id) (d : Option Tmp) (t : Nat → PV) (σ : Sto) (c : Nat) (K : PSt → Prop) : Prop := bindK o fun q => K ⟨putT t d q.1, q.2.app id σ, c⟩
@[simp ↓] theorem FB_some {v : PV} {d : Option Tmp} {t : Nat → PV} {σ : Sto} {c : Nat} {K : PSt → Prop} : FB (some v) d t σ c K = K ⟨putT t d v, σ, c⟩ := (rfl)
@[simp ↓] theorem FM_some {q : PV × SAct} {id : Id} {d : Option Tmp} {t : Nat → PV} {σ : Sto} {c : Nat} {K : PSt → Prop} : FM (some q) id d t σ c K = K ⟨putT t d q.1, q.2.app id σ, c⟩ := (rfl)
@[congr] theorem FB_congr {o o' : Option PV} (d : Option Tmp) (t : Nat → PV) (σ : Sto) (c : Nat) (K : PSt → Prop) (h : o = o') : FB o d t σ c K = FB o' d t σ c K := by rw [h]
@[congr] theorem FM_congr {o o' : Option (PV × SAct)} (id : Id) (d : Option Tmp) (t : Nat → PV) (σ : Sto) (c : Nat) (K : PSt → Prop) (h : o = o') : FM o id d t σ c K = FM o' id d t σ c K := by rw [h]
/-- The operations of a region, the state last. -/
def FR (P : Program) (M : Call → CK) (ctx : Id) (all : Array Oper) (l : List Oper) (i : Nat) (K : PSt → Prop) (s : PSt) : Prop := FL P M ctx all l i s K
/-- An operation with a guard. -/
def FG (o : Option Bool) (P : Program) (M : Call → CK) (ctx : Id) (all : Array Oper) (d : Option Tmp) (op : Op) (r : List Oper) (i : Nat) (K : PSt → Prop) (t : Nat → PV) (σ : Sto) (c : Nat) : Prop :=
  bindK o fun b => if b then FS P M (i :: c :: ctx) d op ⟨t, σ, c⟩ (FR P M ctx all r (i + 1) K) else FR P M ctx all r (i + 1) K ⟨putT t d (.tup []), σ, c⟩
@[congr] theorem FG_congr {o o' : Option Bool} (P : Program) (M : Call → CK) (ctx : Id) (all : Array Oper) (d : Option Tmp) (op : Op) (r : List Oper) (i : Nat) (K : PSt → Prop) (t : Nat → PV) (σ : Sto) (c : Nat) (h : o = o') : FG o P M ctx all d op r i K t σ c = FG o' P M ctx all d op r i K t σ c := by rw [h]
@[simp ↓] theorem FG_true {P : Program} {M : Call → CK} {ctx : Id} {all : Array Oper} {d : Option Tmp} {op : Op} {r : List Oper} {i : Nat} {K : PSt → Prop} {t : Nat → PV} {σ : Sto} {c : Nat} : FG (some true) P M ctx all d op r i K t σ c = FS P M (i :: c :: ctx) d op ⟨t, σ, c⟩ (FR P M ctx all r (i + 1) K) := (rfl)
@[simp ↓] theorem FG_false {P : Program} {M : Call → CK} {ctx : Id} {all : Array Oper} {d : Option Tmp} {op : Op} {r : List Oper} {i : Nat} {K : PSt → Prop} {t : Nat → PV} {σ : Sto} {c : Nat} : FG (some false) P M ctx all d op r i K t σ c = FR P M ctx all r (i + 1) K ⟨putT t d (.tup []), σ, c⟩ := (rfl)
attribute [simp ↓] bindK_some
attribute [simp] bindK_none
attribute [congr] bindK_congr

section
variable {P : Program} {M : Call → CK} {ctx id : Id} {all : Array Oper} {t : Nat → PV} {σ : Sto} {c : Nat} {K : PSt → Prop} {d : Option Tmp}

@[simp ↓] theorem FR_nil {i : Nat} {s : PSt} : FR P M ctx all [] i K s = K s := (rfl)
@[simp ↓] theorem FR_none {i : Nat} {op : Op} {ty : TypeId} {pos : String} {after : Array Edge} {r : List Oper} :
    FR P M ctx all (⟨d, op, ty, pos, after, none⟩ :: r) i K ⟨t, σ, c⟩ = FS P M (i :: c :: ctx) d op ⟨t, σ, c⟩ (FR P M ctx all r (i + 1) K) := (rfl)

/-- Is the guard's operand what is wanted? -/
def wantP (dst : Option Tmp) (t : Nat → PV) (want : Bool) : Option Bool :=
  match dst with
  | some d => match t d with
    | .v (.bool b) => some (b == want)
    | .tup [] => some false
    | _ => none
  | none => some false

theorem FL_some {i j : Nat} {w : Bool} {op : Op} {ty : TypeId} {pos : String} {after : Array Edge} {r : List Oper} :
    FL P M ctx all (⟨d, op, ty, pos, after, some (j, w)⟩ :: r) i ⟨t, σ, c⟩ K =
      bindK (wantP ((all[j]?).bind (·.dst)) t w) fun b => if b then FS P M (i :: c :: ctx) d op ⟨t, σ, c⟩ (fun s' => FL P M ctx all r (i + 1) s' K) else FL P M ctx all r (i + 1) ⟨putT t d (.tup []), σ, c⟩ K := by
  have hw : pWanted all t ⟨d, op, ty, pos, after, some (j, w)⟩ = wantP ((all[j]?).bind (·.dst)) t w := (rfl)
  show (match pWanted all t ⟨d, op, ty, pos, after, some (j, w)⟩ with | some true => _ | some false => _ | none => _) = _
  rw [hw]
  cases wantP ((all[j]?).bind (·.dst)) t w with
  | none => rfl
  | some b => cases b <;> rfl

@[simp ↓] theorem FR_some {i j : Nat} {w : Bool} {op : Op} {ty : TypeId} {pos : String} {after : Array Edge} {r : List Oper} :
    FR P M ctx all (⟨d, op, ty, pos, after, some (j, w)⟩ :: r) i K ⟨t, σ, c⟩ = FG (wantP ((all[j]?).bind (·.dst)) t w) P M ctx all d op r i K t σ c := FL_some
@[simp] theorem wantP_none {w : Bool} : wantP none t w = some false := (rfl)
@[simp] theorem wantP_some {dd : Tmp} {w : Bool} : wantP (some dd) t w = (match t dd with | .v (.bool b) => some (b == w) | .tup [] => some false | _ => none) := (rfl)

@[simp ↓] theorem FS_move {x : Operand} : FS P M id d (.move x) ⟨t, σ, c⟩ K = FB (some (ev t x)) d t σ c K := (rfl)
@[simp ↓] theorem FS_assign {x : Operand} : FS P M id d (.assign x) ⟨t, σ, c⟩ K = FB (some (ev t x)) d t σ c K := (rfl)
def pickV (x a b : PV) : Option PV := match x with
  | .v (.bool t) => some (if t then a else b)
  | _ => none
@[simp] theorem pickV_b {b : Bool} {x y : PV} : pickV (.v (.bool b)) x y = some (if b then x else y) := (rfl)
@[simp ↓] theorem FS_pick {x a b : Operand} : FS P M id d (.pick x a b) ⟨t, σ, c⟩ K = FB (pickV (ev t x) (ev t a) (ev t b)) d t σ c K := (rfl)
@[simp ↓] theorem FS_build {T : TypeId} {ps : Array (Nat × Operand)} : FS P M id d (.build T ps) ⟨t, σ, c⟩ K = FB ((pBuild P T (ps.toList.map fun q => (q.1, ev t q.2))).map (·.1)) d t σ c K := (rfl)
def nilCheckV (x : PV) : Option PV := match x with
  | .ptr i k off => some (.ptr i k off)
  | .cptr cs off => some (.cptr cs off)
  | .fn (.func g) a b => some (.fn (.func g) a b)
  | .iface t p => some (.iface t p)
  | _ => none
@[simp] theorem nilCheckV_ptr {i : Id} {k off : Nat} : nilCheckV (.ptr i k off) = some (.ptr i k off) := (rfl)
@[simp] theorem nilCheckV_cptr {cs : List PV} {off : Nat} : nilCheckV (.cptr cs off) = some (.cptr cs off) := (rfl)
@[simp] theorem nilCheckV_fn {g : FuncId} {a b : List PV} : nilCheckV (.fn (.func g) a b) = some (.fn (.func g) a b) := (rfl)
@[simp] theorem nilCheckV_iface {T : TypeId} {p : PV} : nilCheckV (.iface T p) = some (.iface T p) := (rfl)
@[simp ↓] theorem FS_nilCheck {x : Operand} : FS P M id d (.nilCheck x) ⟨t, σ, c⟩ K = FB (nilCheckV (ev t x)) d t σ c K := (rfl)
/-- Is it no interface's type? -/
def notIface (P : Program) (T : TypeId) : Bool := match P.underlying T with
  | some (.interface _) | none => false
  | some _ => true
@[simp ↓] theorem FS_makeInterface {T : TypeId} {x : Operand} : FS P M id d (.makeInterface T x) ⟨t, σ, c⟩ K = FB (if notIface P T then some (.iface T (ev t x)) else none) d t σ c K := by
  show bindK (fOp _ _ _) _ = _
  simp only [fOp, notIface, FB]
  split <;> simp_all
@[simp ↓] theorem FS_makeFunc {f : Fn} {a b : Array Operand} : FS P M id d (.makeFunc f a b) ⟨t, σ, c⟩ K = FB (some (.fn f (a.toList.map (ev t)) (b.toList.map (ev t)))) d t σ c K := (rfl)
@[simp ↓] theorem FS_slice {T : TypeId} {x : Operand} {lo hi mx : Option Operand} : FS P M id d (.slice T x lo hi mx) ⟨t, σ, c⟩ K = FB (pSlice P T (ev t x) (lo.map (ev t)) (hi.map (ev t)) (mx.map (ev t))) d t σ c K := (rfl)
@[simp ↓] theorem FS_fieldAddr {T : TypeId} {x : Operand} {f : Nat} : FS P M id d (.fieldAddr T x f) ⟨t, σ, c⟩ K = FB (pFieldAddr P T (ev t x) f) d t σ c K := (rfl)
@[simp ↓] theorem FS_field {T : TypeId} {x : Operand} {f : Nat} : FS P M id d (.field T x f) ⟨t, σ, c⟩ K = FB (pField P T (ev t x) f) d t σ c K := (rfl)
@[simp ↓] theorem FS_indexAddr {T : TypeId} {x i : Operand} : FS P M id d (.indexAddr T x i) ⟨t, σ, c⟩ K = FB (pIndexAddr P T (ev t x) (ev t i)) d t σ c K := (rfl)
def extractV (x : PV) (k : Nat) : Option PV := match x with
  | .tup cs => cs[k]?
  | _ => none
@[simp] theorem extractV_tup {cs : List PV} {k : Nat} : extractV (.tup cs) k = cs[k]? := (rfl)
@[simp ↓] theorem FS_extract {x : Operand} {k : Nat} : FS P M id d (.extract x k) ⟨t, σ, c⟩ K = FB (extractV (ev t x) k) d t σ c K := (rfl)
def assertV (P : Program) (x : PV) (T : TypeId) (ok : Bool) : Option PV := match x with
  | .iface t p => if notIface P T then (if t = T then some (if ok then .tup [p, .v (.bool true)] else p) else none) else none
  | _ => none
@[simp] theorem assertV_iface {U T : TypeId} {p : PV} {ok : Bool} : assertV P (.iface U p) T ok = if notIface P T then (if U = T then some (if ok then .tup [p, .v (.bool true)] else p) else none) else none := (rfl)
@[simp ↓] theorem FS_typeAssert {x : Operand} {U T : TypeId} {ok : Bool} : FS P M id d (.typeAssert x U T ok) ⟨t, σ, c⟩ K = FB (assertV P (ev t x) T ok) d t σ c K := by
  have key : fOp P (ev t) (.typeAssert x U T ok) = assertV P (ev t x) T ok := by
    cases hz : ev t x <;> cases hu : P.underlying T <;> simp only [fOp, assertV, notIface, hz, hu]
    · rfl
    · rename_i dd
      cases dd <;> rfl
  show bindK (fOp _ _ _) _ = _
  rw [key]
  rfl
@[simp ↓] theorem FS_binOpC {op : BinOp} {T T' : TypeId} {x : Operand} {y : Value} : FS P M id d (.binOp op T x (.const y) T') ⟨t, σ, c⟩ K = FB (orElse (pEqNil P op T (ev t x) (ofValue y)) (fBin P op T (ev t x) (ofValue y))) d t σ c K := (rfl)
@[simp ↓] theorem FS_binOpT {op : BinOp} {T T' : TypeId} {x : Operand} {j : Tmp} : FS P M id d (.binOp op T x (.tmp j) T') ⟨t, σ, c⟩ K = FB (fBin P op T (ev t x) (t j)) d t σ c K := (rfl)
@[simp ↓] theorem FS_convert {s e : TypeId} {x : Operand} : FS P M id d (.convert s e x) ⟨t, σ, c⟩ K = FB (fConv P s e (ev t x)) d t σ c K := (rfl)
@[simp ↓] theorem FS_unOp {op : UnOp} {T : TypeId} {x : Operand} : FS P M id d (.unOp op T x) ⟨t, σ, c⟩ K = FB (fUn op (ev t x)) d t σ c K := (rfl)

@[simp ↓] theorem FS_alloc {T : TypeId} : FS P M id d (.alloc T) ⟨t, σ, c⟩ K = FM (pAlloc P id T) id d t σ c K := (rfl)
@[simp ↓] theorem FS_box {T : TypeId} {x : Operand} : FS P M id d (.box T x) ⟨t, σ, c⟩ K = FM (pBox P id T (ev t x)) id d t σ c K := (rfl)
@[simp ↓] theorem FS_buildSlice {T : TypeId} {n : Nat} {ps : Array (Nat × Operand)} : FS P M id d (.buildSlice T n ps) ⟨t, σ, c⟩ K = FM (pBuildSlice P id T n (ps.toList.map fun q => (q.1, ev t q.2))) id d t σ c K := (rfl)
@[simp ↓] theorem FS_load {T : TypeId} {x : Operand} : FS P M id d (.load T x) ⟨t, σ, c⟩ K = FM (pLoad P σ T (ev t x)) id d t σ c K := (rfl)
@[simp ↓] theorem FS_store {T : TypeId} {x y : Operand} : FS P M id d (.store T x y) ⟨t, σ, c⟩ K = FM (pStore P σ T (ev t x) (ev t y)) id d t σ c K := (rfl)
@[simp ↓] theorem FS_makeMap {T : TypeId} {r : Option Operand} : FS P M id d (.makeMap T r) ⟨t, σ, c⟩ K = FM (pMakeMap P id T (r.map (ev t))) id d t σ c K := (rfl)
@[simp ↓] theorem FS_makeSlice {T : TypeId} {x y : Operand} : FS P M id d (.makeSlice T x y) ⟨t, σ, c⟩ K = FM (pMakeSlice P id T (ev t x) (ev t y)) id d t σ c K := (rfl)
@[simp ↓] theorem FS_lookup {T : TypeId} {m k : Operand} {ok : Bool} : FS P M id d (.lookup T m k ok) ⟨t, σ, c⟩ K = FB (pLookup P σ T (ev t m) (ev t k) ok) d t σ c K := by
  show bindK ((pLookup P σ T (ev t m) (ev t k) ok).map (·, SAct.no)) _ = _
  cases pLookup P σ T (ev t m) (ev t k) ok <;> rfl
@[simp ↓] theorem FS_mapUpdate {T : TypeId} {m k x : Operand} : FS P M id d (.mapUpdate T m k x) ⟨t, σ, c⟩ K = FM (pMapUpdate P σ T (ev t m) (ev t k) (ev t x)) id d t σ c K := (rfl)
@[simp ↓] theorem FS_mapEntry {T : TypeId} {m k : Operand} : FS P M id d (.mapEntry T m k) ⟨t, σ, c⟩ K = FM (pMapEntry P σ T (ev t m) (ev t k)) id d t σ c K := (rfl)
@[simp ↓] theorem FS_entryStore {T : TypeId} {m s x : Operand} : FS P M id d (.entryStore T m s x) ⟨t, σ, c⟩ K = FM (pEntryStore σ (ev t m) (ev t s) (ev t x)) id d t σ c K := (rfl)
@[simp ↓] theorem FS_len {x : Operand} {T : TypeId} : FS P M id d (.call ⟨.builtin .len, #[x], #[T]⟩) ⟨t, σ, c⟩ K = FB (pLen P σ T (ev t x)) d t σ c K := by
  show bindK ((pLen P σ T (ev t x)).map (·, SAct.no)) _ = _
  cases pLen P σ T (ev t x) <;> rfl
@[simp ↓] theorem FS_append {x y : Operand} {T T' : TypeId} : FS P M id d (.call ⟨.builtin .append, #[x, y], #[T, T']⟩) ⟨t, σ, c⟩ K = FM (if T = T' then pAppend P id σ T (ev t x) (ev t y) else none) id d t σ c K := (rfl)
@[simp ↓] theorem FS_copy {x y : Operand} {T T' : TypeId} : FS P M id d (.call ⟨.builtin .copy, #[x, y], #[T, T']⟩) ⟨t, σ, c⟩ K = FM (pCopy P σ T (ev t x) (ev t y)) id d t σ c K := (rfl)
@[simp ↓] theorem FS_clear {x : Operand} {T : TypeId} : FS P M id d (.call ⟨.builtin .clear, #[x], #[T]⟩) ⟨t, σ, c⟩ K = FM (pClear P σ T (ev t x)) id d t σ c K := (rfl)
@[simp ↓] theorem FS_delete {x y : Operand} {T T' : TypeId} : FS P M id d (.call ⟨.builtin .delete, #[x, y], #[T, T']⟩) ⟨t, σ, c⟩ K = FM (pDelete P σ T (ev t x) (ev t y)) id d t σ c K := (rfl)

/-- Which calls are pure: by the function's number. -/
def Mof (l : List Nat) (c : Call) : CK := match c.callee with
  | .value (.func g) => if l.contains g then .f else .s
  | _ => .s
/-- .. and which leave the store as it is. -/
def Mofq (l q : List Nat) (c : Call) : CK := match c.callee with
  | .value (.func g) => if l.contains g then .f else if q.contains g then .q else .s
  | _ => .s

/-- A pure call of a function by name. -/
def CallF (P : Program) (g : FuncId) (args : List PV) (d : Option Tmp) (s : PSt) (K : PSt → Prop) : Prop :=
  ∃ args' r, mapO (frz depthF s.σ) args = some args' ∧ PC P g args' r ∧ K ⟨putT s.t d r, mark s.σ (args.flatMap (frzIds depthF s.σ)), s.c⟩
def CallS (P : Program) (id : Id) (g : FuncId) (args : List PV) (d : Option Tmp) (s : PSt) (K : PSt → Prop) : Prop :=
  PCS P id g args s.σ (fun r σ' => K ⟨putT s.t d r, σ', s.c⟩)

@[simp ↓] theorem FS_callF {l : List Nat} {g : FuncId} {args : Array Operand} {tys : Array TypeId} : FS P (Mof l) id d (.call ⟨.value (.func g), args, tys⟩) ⟨t, σ, c⟩ K = (FuncOK P g = true ∧ (if l.contains g then CallF P g (args.toList.map (ev t)) d ⟨t, σ, c⟩ K else CallS P id g (args.toList.map (ev t)) d ⟨t, σ, c⟩ K)) := by
  have hk : kindOf (Mof l) (.call ⟨.value (.func g), args, tys⟩) = if l.contains g then .f else .s := by
    show (match (if l.contains g then CK.f else CK.s) with | .f => Kd.f | .q => Kd.q | .s => Kd.s) = _
    by_cases h : l.contains g = true
    · rw [if_pos h, if_pos h]
    · rw [if_neg h, if_neg h]
  unfold FS
  rw [hk]
  have hc : pCallee P (ev t) ⟨.value (.func g), args, tys⟩ = some (g, args.toList.map (ev t)) := by
    show some (g, [] ++ args.toList.map (ev t) ++ []) = _
    simp
  by_cases h : l.contains g = true
  · simp only [h, if_true, hc, bindK_some]
    apply propext
    constructor
    · rintro ⟨h1, h2⟩
      obtain ⟨args', ha, r, hp, hK⟩ := bindK_elim h2
      exact ⟨h1, args', r, ha, hp, hK⟩
    · rintro ⟨h1, args', r, ha, hp, hK⟩
      refine ⟨h1, ?_⟩
      rw [ha]
      exact ⟨r, hp, hK⟩
  · simp only [h, Bool.false_eq_true, if_false, hc, bindK_some]
    rfl


/-- A call that leaves the store as it is. -/
def CallQ (P : Program) (id : Id) (g : FuncId) (args : List PV) (d : Option Tmp) (s : PSt) (K : PSt → Prop) : Prop :=
  ∃ r, PCS P id g args s.σ (fun r' σ' => r' = r ∧ σ' = s.σ) ∧ K ⟨putT s.t d r, s.σ, s.c⟩

@[simp ↓] theorem FS_callQ {l q : List Nat} {g : FuncId} {args : Array Operand} {tys : Array TypeId} : FS P (Mofq l q) id d (.call ⟨.value (.func g), args, tys⟩) ⟨t, σ, c⟩ K = (FuncOK P g = true ∧ (if l.contains g then CallF P g (args.toList.map (ev t)) d ⟨t, σ, c⟩ K else if q.contains g then CallQ P id g (args.toList.map (ev t)) d ⟨t, σ, c⟩ K else CallS P id g (args.toList.map (ev t)) d ⟨t, σ, c⟩ K)) := by
  have hk : kindOf (Mofq l q) (.call ⟨.value (.func g), args, tys⟩) = if l.contains g then .f else if q.contains g then .q else .s := by
    show (match (if l.contains g then CK.f else if q.contains g then CK.q else CK.s) with | .f => Kd.f | .q => Kd.q | .s => Kd.s) = _
    by_cases h : l.contains g = true
    · rw [if_pos h, if_pos h]
    · rw [if_neg h, if_neg h]
      by_cases h' : q.contains g = true
      · rw [if_pos h', if_pos h']
      · rw [if_neg h', if_neg h']
  unfold FS
  rw [hk]
  have hc : pCallee P (ev t) ⟨.value (.func g), args, tys⟩ = some (g, args.toList.map (ev t)) := by
    show some (g, [] ++ args.toList.map (ev t) ++ []) = _
    simp
  by_cases h : l.contains g = true
  · simp only [h, if_true, hc, bindK_some]
    apply propext
    constructor
    · rintro ⟨h1, h2⟩
      obtain ⟨args', ha, r, hp, hK⟩ := bindK_elim h2
      exact ⟨h1, args', r, ha, hp, hK⟩
    · rintro ⟨h1, args', r, ha, hp, hK⟩
      refine ⟨h1, ?_⟩
      rw [ha]
      exact ⟨r, hp, hK⟩
  · by_cases h' : q.contains g = true
    · simp only [h, h', Bool.false_eq_true, if_true, if_false, hc, bindK_some]
      rfl
    · simp only [h, h', Bool.false_eq_true, if_false, hc, bindK_some]
      rfl

/-- A call through an interface. -/
def invokeV (P : Program) (x : PV) (n : String) (args : List PV) : Option (FuncId × List PV) := match x with
  | .iface t p => (pMethod P t p n).map fun (f, q) => (f, q :: args)
  | _ => none
@[simp] theorem invokeV_iface {T : TypeId} {p : PV} {n : String} {args : List PV} : invokeV P (.iface T p) n args = (pMethod P T p n).map fun (f, q) => (f, q :: args) := (rfl)
@[simp ↓] theorem FS_invoke {l : List Nat} {r : Operand} {n : String} {args : Array Operand} {tys : Array TypeId} : FS P (Mof l) id d (.call ⟨.invoke r n, args, tys⟩) ⟨t, σ, c⟩ K =
    bindK (invokeV P (ev t r) n (args.toList.map (ev t))) fun q => FuncOK P q.1 = true ∧ CallS P id q.1 q.2 d ⟨t, σ, c⟩ K := (rfl)

end

@[simp] theorem ev_tmp {t : Nat → PV} {i : Tmp} : ev t (.tmp i) = t i := (rfl)
@[simp] theorem ev_const {t : Nat → PV} {x : Value} : ev t (.const x) = ofValue x := (rfl)
@[simp] theorem ev_func {t : Nat → PV} {f : FuncId} : ev t (.func f) = .fn (.func f) [] [] := (rfl)
@[simp] theorem putT_some {t : Nat → PV} {d : Tmp} {v : PV} {j : Nat} : putT t (some d) v j = if j = d then v else t j := (rfl)
@[simp] theorem putT_none {t : Nat → PV} {v : PV} : putT t none v = t := (rfl)
@[simp] theorem ofValue_int {k : IntKind} {n : Int} : ofValue (.int k n) = .v (.int k n) := (rfl)
@[simp] theorem ofValue_bool {b : Bool} : ofValue (.bool b) = .v (.bool b) := (rfl)
@[simp] theorem ofValue_nilPtr : ofValue (.pointer none) = .v (.pointer none) := (rfl)
@[simp] theorem ofValue_nilSl : ofValue (.slice none 0 0) = .nilS := (rfl)
@[simp] theorem ofValue_nilMap : ofValue (.map none) = .v (.map none) := (rfl)
@[simp] theorem ofValue_nilIface : ofValue .nilIface = .v .nilIface := (rfl)
@[simp] theorem ofValue_string {s : ByteArray} : ofValue (.string s) = .v (.string s) := (rfl)
@[simp] theorem fBin_shl {P : Program} {T : TypeId} {k k' : IntKind} {a b : Int} : fBin P .shl T (.v (.int k a)) (.v (.int k' b)) = binI .shl k a b := by simp [fBin, isSh]
@[simp] theorem fBin_shr {P : Program} {T : TypeId} {k k' : IntKind} {a b : Int} : fBin P .shr T (.v (.int k a)) (.v (.int k' b)) = binI .shr k a b := by simp [fBin, isSh]
@[simp] theorem fBin_string {P : Program} {T : TypeId} {op : BinOp} {a b : ByteArray} : fBin P op T (.v (.string a)) (.v (.string b)) = binS op a b := (rfl)
@[simp] theorem fBin_aggEq {P : Program} {T : TypeId} {a b : List PV} : fBin P .eql T (.agg a) (.agg b) = (eqA P T (.agg a) (.agg b)).map fun b => .v (.bool b) := (rfl)
@[simp] theorem fBin_aggNe {P : Program} {T : TypeId} {a b : List PV} : fBin P .neq T (.agg a) (.agg b) = (eqA P T (.agg a) (.agg b)).map fun b => .v (.bool !b) := (rfl)
@[simp] theorem binS_eql {a b : ByteArray} : binS .eql a b = some (.v (.bool (a.toList == b.toList))) := (rfl)
@[simp] theorem binS_neq {a b : ByteArray} : binS .neq a b = some (.v (.bool !(a.toList == b.toList))) := (rfl)
@[simp] theorem fBin_int {P : Program} {T : TypeId} {op : BinOp} {k : IntKind} {a b : Int} : fBin P op T (.v (.int k a)) (.v (.int k b)) = binI op k a b := by simp only [fBin, if_true]
section
variable {k : IntKind} {a b : Int}
@[simp] theorem binI_add : binI .add k a b = some (.v (.int k (k.wrap (a + b)))) := (rfl)
@[simp] theorem binI_sub : binI .sub k a b = some (.v (.int k (k.wrap (a - b)))) := (rfl)
@[simp] theorem binI_mul : binI .mul k a b = some (.v (.int k (k.wrap (a * b)))) := (rfl)
@[simp] theorem binI_shl : binI .shl k a b = (if b < 0 then none else some (.v (.int k (k.wrap (a * 2 ^ min b.toNat k.bits))))) := by by_cases h : b < 0 <;> simp [binI, arI, cmpI, h]
@[simp] theorem binI_shr : binI .shr k a b = (if b < 0 then none else some (.v (.int k (a.fdiv (2 ^ min b.toNat k.bits))))) := by by_cases h : b < 0 <;> simp [binI, arI, cmpI, h]
@[simp] theorem binI_or : binI .or k a b = some (.v (.int k (k.wrap (BitVec.ofInt k.bits a ||| BitVec.ofInt k.bits b).toNat))) := (rfl)
@[simp] theorem binI_and : binI .and k a b = some (.v (.int k (k.wrap (BitVec.ofInt k.bits a &&& BitVec.ofInt k.bits b).toNat))) := (rfl)
@[simp] theorem binI_andNot : binI .andNot k a b = some (.v (.int k (k.wrap (BitVec.ofInt k.bits a &&& ~~~ (BitVec.ofInt k.bits b)).toNat))) := (rfl)
@[simp] theorem binI_xor : binI .xor k a b = some (.v (.int k (k.wrap (BitVec.ofInt k.bits a ^^^ BitVec.ofInt k.bits b).toNat))) := (rfl)
@[simp] theorem binI_eql : binI .eql k a b = some (.v (.bool (decide (a = b)))) := (rfl)
@[simp] theorem binI_neq : binI .neq k a b = some (.v (.bool (decide (a ≠ b)))) := (rfl)
@[simp] theorem binI_lss : binI .lss k a b = some (.v (.bool (decide (a < b)))) := (rfl)
@[simp] theorem binI_leq : binI .leq k a b = some (.v (.bool (decide (a ≤ b)))) := (rfl)
@[simp] theorem binI_gtr : binI .gtr k a b = some (.v (.bool (decide (b < a)))) := (rfl)
@[simp] theorem binI_geq : binI .geq k a b = some (.v (.bool (decide (b ≤ a)))) := (rfl)
@[simp] theorem binI_quo (h : b ≠ 0) : binI .quo k a b = some (.v (.int k (k.wrap (a.tdiv b)))) := by simp [binI, arI, h]
@[simp] theorem binI_rem (h : b ≠ 0) : binI .rem k a b = some (.v (.int k (a.tmod b))) := by simp [binI, arI, h]
@[simp] theorem fBin_bool {P : Program} {T : TypeId} {op : BinOp} {a b : Bool} : fBin P op T (.v (.bool a)) (.v (.bool b)) = (match P.underlying T with
    | some .bool => binB op a b
    | _ => none) := (rfl)
@[simp] theorem binB_eql {a b : Bool} : binB .eql a b = some (.v (.bool (a == b))) := (rfl)
@[simp] theorem binB_neq {a b : Bool} : binB .neq a b = some (.v (.bool (!(a == b)))) := (rfl)
theorem wrap64 {n : Int} (h1 : -9223372036854775808 ≤ n) (h2 : n < 9223372036854775808) : IntKind.i64.wrap n = n := by
  simp only [IntKind.wrap, IntKind.bits, IntKind.signed, Bool.true_and]
  split
  · rename_i h
    simp only [ge_iff_le, decide_eq_true_eq] at h
    omega
  · rename_i h
    simp only [ge_iff_le, decide_eq_true_eq] at h
    omega
end
@[simp] theorem fUn_not {b : Bool} : fUn .not (.v (.bool b)) = some (.v (.bool !b)) := (rfl)
@[simp] theorem orElse_none {α : Type} {b : Option α} : orElse none b = b := (rfl)
@[simp] theorem orElse_some {α : Type} {a : α} {b : Option α} : orElse (some a) b = some a := (rfl)
@[simp] theorem app_no {id : Id} {σ : Sto} : SAct.no.app id σ = σ := (rfl)
@[simp] theorem app_new {id : Id} {σ : Sto} {B : Blk} : (SAct.new B).app id σ = upd σ id (some B) := (rfl)
@[simp] theorem app_set {id i : Id} {σ : Sto} {B : Blk} : (SAct.set i B).app id σ = upd σ i (some B) := (rfl)
@[simp] theorem app_kill {id i : Id} {σ : Sto} {B : Blk} : (SAct.kill i B).app id σ = upd (upd σ i none) id (some B) := (rfl)
@[simp] theorem upd_if {α : Type} {f : Id → α} {k j : Id} {v : α} : upd f k v j = if j = k then v else f j := (rfl)
@[simp] theorem mark_nil' {σ : Sto} : mark σ [] = σ := mark_nil σ
@[simp] theorem thenK_n {next : PSt → Prop} {K : PExit → PSt → Prop} {s : PSt} : thenK next K .normal s = next s := (rfl)
@[simp] theorem thenK_e {next : PSt → Prop} {K : PExit → PSt → Prop} {s : PSt} {i : Nat} : thenK next K (.exit i) s = K (.exit i) s := (rfl)
@[simp] theorem thenK_r {next : PSt → Prop} {K : PExit → PSt → Prop} {s : PSt} : thenK next K .ret s = K .ret s := (rfl)
@[simp] theorem blockK_n {i : Nat} {K : PExit → PSt → Prop} {s : PSt} : blockK i K .normal s = K .normal s := (rfl)
@[simp] theorem blockK_e {i j : Nat} {K : PExit → PSt → Prop} {s : PSt} : blockK i K (.exit j) s = if j = i then K .normal s else K (.exit j) s := (rfl)
@[simp] theorem blockK_r {i : Nat} {K : PExit → PSt → Prop} {s : PSt} : blockK i K .ret s = K .ret s := (rfl)


/-! ### What keeps rewriting out of the text -/
@[congr] theorem PW_congr {P : Program} {N : Nat} {ctx : Id} {c : Code} {s s' : PSt} {K : PExit → PSt → Prop} (h : s = s') : PW P N ctx c s K = PW P N ctx c s' K := by rw [h]
@[congr] theorem CallF_congr {P : Program} {g : FuncId} {args args' : List PV} {d : Option Tmp} {s : PSt} {K : PSt → Prop} (h : args = args') : CallF P g args d s K = CallF P g args' d s K := by rw [h]
@[congr] theorem CallQ_congr {P : Program} {id : Id} {g : FuncId} {args args' : List PV} {d : Option Tmp} {s : PSt} {K : PSt → Prop} (h : args = args') : CallQ P id g args d s K = CallQ P id g args' d s K := by rw [h]
@[congr] theorem CallS_congr {P : Program} {id : Id} {g : FuncId} {args args' : List PV} {d : Option Tmp} {s : PSt} {K : PSt → Prop} (h : args = args') : CallS P id g args d s K = CallS P id g args' d s K := by rw [h]
@[congr] theorem FL_congr {P : Program} {M : Call → CK} {ctx : Id} {all : Array Oper} {l : List Oper} {i : Nat} {s s' : PSt} {K : PSt → Prop} (h : s = s') : FL P M ctx all l i s K = FL P M ctx all l i s' K := by rw [h]
@[congr] theorem FS_congr {P : Program} {M : Call → CK} {id : Id} {d : Option Tmp} {op : Op} {s s' : PSt} {K : PSt → Prop} (h : s = s') : FS P M id d op s K = FS P M id d op s' K := by rw [h]

/-! ### Conditions -/
def condK (v : PV) (A B : Prop) : Prop := match v with
  | .v (.bool true) => A
  | .v (.bool false) => B
  | _ => False
@[simp ↓] theorem condK_true {A B : Prop} : condK (.v (.bool true)) A B = A := (rfl)
@[simp ↓] theorem condK_false {A B : Prop} : condK (.v (.bool false)) A B = B := (rfl)
@[simp] theorem condK_b {b : Bool} {A B : Prop} : condK (.v (.bool b)) A B = ((b = true → A) ∧ (b = false → B)) := by
  cases b <;> simp
@[congr] theorem condK_congr {v v' : PV} {A B : Prop} (h : v = v') : condK v A B = condK v' A B := by rw [h]

theorem PW.condV {P : Program} {N : Nat} {ctx : Id} {c : Operand} {x y : Code} {s : PSt} {K : PExit → PSt → Prop} (h : condK (ev s.t c) (PW P N ctx x s K) (PW P N ctx y s K)) : PW P N ctx (.cond c x y) s K := by
  unfold condK at h
  split at h
  · rename_i hv; exact PW.cond (b := true) hv h
  · rename_i hv; exact PW.cond (b := false) hv h
  · exact h.elim

/-! ### Values without references -/
def flatP : Nat → PV → Bool
  | 0, _ => false
  | n + 1, p => match p with
    | .v _ | .sl _ | .cptr _ _ => true
    | .agg cs | .tup cs => cs.all (flatP n)
    | .iface _ q => flatP n q
    | .fn _ a b => a.all (flatP n) && b.all (flatP n)
    | _ => false

theorem flat_frz : ∀ (n : Nat) {σ : Sto} {p : PV}, flatP n p = true → frz n σ p = some p ∧ frzIds n σ p = []
  | 0, σ, p, h => by simp [flatP] at h
  | n + 1, σ, p, h => by
    have hl : ∀ {cs : List PV}, cs.all (flatP n) = true → mapO (frz n σ) cs = some cs ∧ cs.flatMap (frzIds n σ) = [] := by
      intro cs hc
      rw [List.all_eq_true] at hc
      refine ⟨mapO_self _ fun a ha => (flat_frz n (hc a ha)).1, ?_⟩
      rw [List.flatMap_eq_nil_iff]
      exact fun a ha => (flat_frz n (hc a ha)).2
    cases p <;> simp only [flatP, Bool.and_eq_true] at h <;> first | (cases h; done) | skip
    case v => exact ⟨rfl, rfl⟩
    case sl => exact ⟨rfl, rfl⟩
    case cptr => exact ⟨rfl, rfl⟩
    case agg cs => obtain ⟨h1, h2⟩ := hl h; simp [frz, frzIds, h1, h2]
    case tup cs => obtain ⟨h1, h2⟩ := hl h; simp [frz, frzIds, h1, h2]
    case iface t q => obtain ⟨h1, h2⟩ := flat_frz n (σ := σ) h; simp [frz, frzIds, h1, h2]
    case fn f a b => obtain ⟨h1, h2⟩ := hl h.1; obtain ⟨h3, h4⟩ := hl h.2; simp only [frz, h1, h3, frzIds, h2, h4]; simp

/-- A pure call whose arguments bear no references. -/
theorem CallF.flat {P : Program} {g : FuncId} {args : List PV} {d : Option Tmp} {t : Nat → PV} {σ : Sto} {c : Nat} {K : PSt → Prop} {r : PV} (h : PC P g args r) (hf : args.all (flatP depthF) = true) (hK : K ⟨putT t d r, σ, c⟩) : CallF P g args d ⟨t, σ, c⟩ K := by
  rw [List.all_eq_true] at hf
  have h2 : args.flatMap (frzIds depthF σ) = [] := List.flatMap_eq_nil_iff.2 fun a ha => (flat_frz _ (hf a ha)).2
  refine ⟨args, r, mapO_self _ fun a ha => (flat_frz _ (hf a ha)).1, h, ?_⟩
  show K ⟨putT t d r, mark σ (args.flatMap (frzIds depthF σ)), c⟩
  rw [h2, mark_nil]
  exact hK

/-- A call of a method or function that may touch the store. -/
theorem CallS.of {P : Program} {id : Id} {g : FuncId} {args : List PV} {d : Option Tmp} {t : Nat → PV} {σ : Sto} {c : Nat} {K : PSt → Prop} {Q : PV → Sto → Prop} (h : PCS P id g args σ Q) (hK : ∀ r σ', Q r σ' → K ⟨putT t d r, σ', c⟩) : CallS P id g args d ⟨t, σ, c⟩ K := by
  obtain ⟨⟨r, σ', hQ⟩, h2⟩ := h
  refine ⟨⟨r, σ', hK _ _ hQ⟩, fun base F ι w vals hm hfr hv => (h2 base F ι w vals hm hfr hv).mono ?_⟩
  rintro e w' ⟨v, F', ι', r', σ1, he, hQ', h3⟩
  exact ⟨v, F', ι', r', σ1, he, hK _ _ hQ', h3⟩

theorem CallQ.of {P : Program} {id : Id} {g : FuncId} {args : List PV} {d : Option Tmp} {t : Nat → PV} {σ : Sto} {c : Nat} {K : PSt → Prop} {r : PV} (h : PCS P id g args σ (fun r' σ' => r' = r ∧ σ' = σ)) (hK : K ⟨putT t d r, σ, c⟩) : CallQ P id g args d ⟨t, σ, c⟩ K := ⟨r, h, hK⟩

/-- A pure function, called with the store at hand (nothing of it is touched). -/
theorem PW.retV {P : Program} {N : Nat} {ctx : Id} {fn : Func} {t : Nat → PV} {σ : Sto} {c : Nat} {Q : PV → Sto → Prop} {r : PV} (h : pResults P fn ⟨t, σ, c⟩ = some r) (hQ : Q r σ) : PW P N ctx .ret ⟨t, σ, c⟩ (retK P fn Q) :=
  PW.ret ⟨r, h, hQ⟩


@[simp ↓] theorem retK_r {P : Program} {fn : Func} {Q : PV → Sto → Prop} {s : PSt} : retK P fn Q .ret s = bindK (pResults P fn s) fun r => Q r s.σ := by
  show (∃ r, pResults P fn s = some r ∧ Q r s.σ) = _
  cases pResults P fn s <;> simp [bindK]
@[simp ↓] theorem retK_n {P : Program} {fn : Func} {Q : PV → Sto → Prop} {s : PSt} : retK P fn Q .normal s = bindK (pResults P fn s) fun r => Q r s.σ := by
  show (∃ r, pResults P fn s = some r ∧ Q r s.σ) = _
  cases pResults P fn s <;> simp [bindK]
attribute [simp] entry pResults mapO pRes1 depthF
@[simp] theorem flatP_v {n : Nat} {x : Value} : flatP (n + 1) (.v x) = true := (rfl)
@[simp] theorem flatP_sl {n : Nat} {x : List (List PV)} : flatP (n + 1) (.sl x) = true := (rfl)
@[simp] theorem flatP_cptr {n : Nat} {x : List PV} {o : Nat} : flatP (n + 1) (.cptr x o) = true := (rfl)
@[simp] theorem flatP_agg {n : Nat} {x : List PV} : flatP (n + 1) (.agg x) = x.all (flatP n) := (rfl)
@[simp] theorem flatP_tup {n : Nat} {x : List PV} : flatP (n + 1) (.tup x) = x.all (flatP n) := (rfl)
@[simp] theorem flatP_iface {n : Nat} {T : TypeId} {x : PV} : flatP (n + 1) (.iface T x) = flatP n x := (rfl)
@[simp] theorem flatP_fn {n : Nat} {f : Fn} {a b : List PV} : flatP (n + 1) (.fn f a b) = (a.all (flatP n) && b.all (flatP n)) := (rfl)
@[simp] theorem flatP_nilS {n : Nat} : flatP (n + 1) .nilS = false := (rfl)
@[simp] theorem flatP_own {n : Nat} {i : Id} {e o l : Nat} : flatP (n + 1) (.own i e o l) = false := (rfl)
@[simp] theorem flatP_ptr {n : Nat} {i : Id} {e o : Nat} : flatP (n + 1) (.ptr i e o) = false := (rfl)

/-- The result of a pure function, frozen. -/
def Frz (r : PV) (r' : PV) (σ : Sto) : Prop := ∃ n, frz n σ r' = some r
@[simp] theorem Frz_v {x : Value} {r : PV} {σ : Sto} : Frz r (.v x) σ = (r = .v x) := by
  apply propext
  constructor
  · rintro ⟨n, h⟩
    cases n with
    | zero => cases h
    | succ n => simpa [frz, eq_comm] using h
  · rintro rfl
    exact ⟨1, rfl⟩

theorem PC.of' {P : Program} {f : FuncId} {fn : Func} {c : Code} {args : List PV} {r : PV} (hf : P.funcs[f]? = some fn) (hb : fn.body = some c) (hn : args.length ≤ fn.ntmps)
    (h : PW P fn.ntmps [] c ⟨entry args, fun _ => none, 0⟩ (retK P fn (Frz r))) : PC P f args r := PC.of hf hb hn h


attribute [simp] pLen pLoad pStore pBox pAlloc pBuild pfill splice pFieldAddr pField pIndexAddr pBounds pBound ld notAgg PV.cells pMakeMap chunk
@[simp] theorem ofCell_int {k : IntKind} {n : Int} : ofCell (.int k n) = .v (.int k n) := (rfl)
@[simp] theorem ofCell_bool {b : Bool} : ofCell (.bool b) = .v (.bool b) := (rfl)
@[simp] theorem ofCell_nilSl : ofCell (.slice none 0 0) = .nilS := (rfl)
@[simp] theorem ofCell_nilMap : ofCell (.map none) = .v (.map none) := (rfl)
@[simp] theorem ofCell_nilPtr : ofCell (.pointer none) = .v (.pointer none) := (rfl)
@[simp] theorem ofCell_nilIface : ofCell .nilIface = .v .nilIface := (rfl)
@[simp] theorem ofCell_string {x : ByteArray} : ofCell (.string x) = .v (.string x) := (rfl)

theorem pEqNil_not {P : Program} {op : BinOp} {T : TypeId} {x y : PV} (h : ∀ d, isNilC d y = false) : pEqNil P op T x y = none := by
  unfold pEqNil
  split
  · rename_i d _
    cases op <;> simp [h d]
  · rfl
@[simp] theorem pEqNil_int {P : Program} {op : BinOp} {T : TypeId} {x : PV} {k : IntKind} {n : Int} : pEqNil P op T x (.v (.int k n)) = none := pEqNil_not fun d => by cases d <;> rfl
@[simp] theorem pEqNil_bool {P : Program} {op : BinOp} {T : TypeId} {x : PV} {b : Bool} : pEqNil P op T x (.v (.bool b)) = none := pEqNil_not fun d => by cases d <;> rfl
@[simp] theorem pEqNil_string {P : Program} {op : BinOp} {T : TypeId} {x : PV} {b : ByteArray} : pEqNil P op T x (.v (.string b)) = none := pEqNil_not fun d => by cases d <;> rfl
attribute [simp] pIsNil isNilC

theorem CallF.mk {P : Program} {g : FuncId} {args args' : List PV} {d : Option Tmp} {t : Nat → PV} {σ : Sto} {c : Nat} {K : PSt → Prop} {r : PV} (ha : mapO (frz depthF σ) args = some args') (h : PC P g args' r) (hK : K ⟨putT t d r, mark σ (args.flatMap (frzIds depthF σ)), c⟩) : CallF P g args d ⟨t, σ, c⟩ K :=
  ⟨args', r, ha, h, hK⟩

@[simp] theorem one_int {k : IntKind} {n : Int} : (PV.v (.int k n)).one = true := (rfl)
@[simp] theorem one_bool {b : Bool} : (PV.v (.bool b)).one = true := (rfl)
@[simp] theorem one_string {b : ByteArray} : (PV.v (.string b)).one = true := (rfl)
@[simp] theorem one_nilPtr : (PV.v (.pointer none)).one = true := (rfl)
@[simp] theorem one_nilMap : (PV.v (.map none)).one = true := (rfl)
@[simp] theorem one_nilIface : (PV.v .nilIface).one = true := (rfl)
@[simp] theorem one_nilFunc : (PV.v .nilFunc).one = true := (rfl)
@[simp] theorem one_nilS : PV.nilS.one = true := (rfl)
@[simp] theorem one_sl {es : List (List PV)} : (PV.sl es).one = true := (rfl)
@[simp] theorem one_own {i : Id} {e o l : Nat} : (PV.own i e o l).one = true := (rfl)
@[simp] theorem one_ptr {i : Id} {e o : Nat} : (PV.ptr i e o).one = true := (rfl)
@[simp] theorem one_cptr {cs : List PV} {o : Nat} : (PV.cptr cs o).one = true := (rfl)
@[simp] theorem one_mp {i : Id} : (PV.mp i).one = true := (rfl)
@[simp] theorem one_iface {T : TypeId} {p : PV} : (PV.iface T p).one = true := (rfl)
@[simp] theorem one_fn {f : Fn} {a b : List PV} : (PV.fn f a b).one = true := (rfl)

/-- A region, evaluated. -/
theorem PW.rg {P : Program} {N : Nat} {ctx : Id} {t : Nat → PV} {σ : Sto} {c : Nat} {K : PExit → PSt → Prop} (M : Call → CK) {rid : Nat} {ops : Array Oper} {draw : Bool} (hm : P.follows .mixedOrders = true) (hok : regOK M N ops draw = true)
    (h : FR P M ctx ops ops.toList 0 (fun s' => K .normal ⟨s'.t, s'.σ, c + 1⟩) ⟨t, σ, c⟩) : PW P N ctx (.region rid ops draw) ⟨t, σ, c⟩ K := PW.reg M hm hok h

end Go.PM
end

