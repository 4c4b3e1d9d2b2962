/- A logic of the model's text over values without addresses, and what the functions that the law reaches come to. Conditions: none. -/
import Derived.Test.YtnlkioiaodloeaaPart0
import Derived.Laws.Sem
section
set_option linter.unusedSimpArgs false
set_option linter.unusedVariables false
set_option linter.constructorNameAsVariable false
/- One operation on a pure state. -/
namespace Go.PM
open Go Go.RowKit

/-! ### What reckons with plain values alone -/
def notSelect : Op → Bool
  | .select _ _ => false
  | _ => true

def pGen (P : Program) (e : Operand → PV) (o : Oper) : Option PV :=
  if notSelect o.op = true ∧ o.op.operands.all (fun x => (toV (e x)).isSome) = true then
    match pureRun P (execOp (fun x => (toV (e x)).getD undef) o) with
    | some (.value y) => some (ofValue y)
    | _ => none
  else none

theorem gen_ok {P : Program} {F : Froz} {ι : Loc} {t : Nat → PV} {a : Act} (ht : ∀ i, VR F ι (t i) (a.tmps.getD i undef)) {o : Oper} {v : PV} (h : pGen P (ev t) o = some v) (w : World) : ∃ y, (execOp a.eval o).run P w = .ok (.value y) w ∧ VR F ι v y := by
  unfold pGen at h
  split at h
  · rename_i hc
    obtain ⟨hs, hall⟩ := hc
    split at h
    · rename_i y hr
      simp at h; subst h
      refine ⟨y, ?_, VR.ofValue _ _ _⟩
      have hcong : execOp a.eval o = execOp (fun x => (toV (ev t x)).getD undef) o := by
        refine execOp_congr o (fun cs b he => by rw [he] at hs; simp [notSelect] at hs) (fun x hx => ?_)
        have h1 := (Array.all_eq_true_iff_forall_mem.1 hall) x hx
        obtain ⟨y, hy⟩ := Option.isSome_iff_exists.1 h1
        rw [hy]
        exact (VR.ev ht x).toV hy
      rw [hcong]
      exact pureRun_run hr w
    · cases h
  · cases h

/-- The second, where the first doesn't tell. -/
def orElse {α : Type} : Option α → Option α → Option α
  | some a, _ => some a
  | none, b => b

/-! ### The operations that only reckon: of values -/
def pOp (P : Program) (e : Operand → PV) (o : Oper) : Option PV :=
  match o.op with
  | .move x | .assign x => some (e x)
  | .pick c a b => match e c with
    | .v (.bool t) => some (if t then e a else e b)
    | _ => none
  | .build T ps => (pBuild P T (ps.toList.map fun q => (q.1, e q.2))).map (·.1)
  | .nilCheck x => match e x with
    | .ptr i k off => some (.ptr i k off)
    | .cptr cs off => some (.cptr cs off)
    | .fn (.func g) a b => some (.fn (.func g) a b)
    | .iface t p => some (.iface t p)
    | _ => pGen P e o
  | .makeInterface T x => match P.underlying T with
    | some (.interface _) | none => none
    | some _ => some (.iface T (e x))
  | .makeFunc f a b => some (.fn f (a.toList.map e) (b.toList.map e))
  | .slice T x lo hi mx => orElse (pSlice P T (e x) (lo.map e) (hi.map e) (mx.map e)) (pGen P e o)
  | .fieldAddr S x f => pFieldAddr P S (e x) f
  | .field S x f => pField P S (e x) f
  | .indexAddr T x ix => pIndexAddr P T (e x) (e ix)
  | .extract x k => match e x with
    | .tup cs => cs[k]?
    | _ => pGen P e o
  | .typeAssert x _ T ok => match e x, P.underlying T with
    | .iface _ _, some (.interface _) => none
    | .iface t p, some _ => if t = T then some (if ok then .tup [p, .v (.bool true)] else p) else none
    | _, _ => none
  | .binOp op T x y _ => match y with
    | .const c => orElse (pEqNil P op T (e x) (ofValue c)) (pGen P e o)
    | _ => pGen P e o
  | _ => pGen P e o

theorem orElse_cases {α : Type} {a b : Option α} {v : α} (h : orElse a b = some v) : a = some v ∨ b = some v := by
  cases a with
  | none => exact .inr h
  | some x => exact .inl h

theorem optR_map {F : Froz} {ι : Loc} {t : Nat → PV} {a : Act} (ht : ∀ i, VR F ι (t i) (a.tmps.getD i undef)) (x : Option Operand) : OptR F ι (x.map (ev t)) (x.map a.eval) := by
  cases x with
  | none => trivial
  | some x => exact VR.ev ht x

theorem vrs_map {F : Froz} {ι : Loc} {t : Nat → PV} {a : Act} (ht : ∀ i, VR F ι (t i) (a.tmps.getD i undef)) (xs : Array Operand) :
    VRs F ι (xs.toList.map (ev t)) (xs.map a.eval) := by
  refine ⟨by simp, fun j p hj => ?_⟩
  rw [List.getElem?_map] at hj
  obtain ⟨x, hx, rfl⟩ := Option.map_eq_some_iff.1 hj
  rw [Array.getElem?_toList] at hx
  rw [Array.getD_eq_getD_getElem?, Array.getElem?_map, hx]
  exact VR.ev ht x

theorem pOp_ok {P : Program} {base : Nat} {F : Froz} {ι : Loc} {σ : Sto} {w : World} (hm : Mem P base F ι σ w) {t : Nat → PV} {a : Act} (ht : ∀ i, VR F ι (t i) (a.tmps.getD i undef)) {o : Oper} {v : PV} (h : pOp P (ev t) o = some v) :
    ∃ y, (execOp a.eval o).run P w = .ok (.value y) w ∧ VR F ι v y := by
  have hgen : pGen P (ev t) o = some v → ∃ y, (execOp a.eval o).run P w = .ok (.value y) w ∧ VR F ι v y := fun h => gen_ok ht h w
  have lift : ∀ {s : Sem Value}, (∃ y, s.run P w = .ok y w ∧ VR F ι v y) → execOp a.eval o = (do pure (.value (← s))) → ∃ y, (execOp a.eval o).run P w = .ok (.value y) w ∧ VR F ι v y := by
    rintro s ⟨y, hy, hv⟩ he
    exact ⟨y, by rw [he]; simp [hy], hv⟩
  unfold pOp at h
  split at h
  · rename_i x ho
    simp at h; subst h
    exact ⟨a.eval x, by simp [execOp, ho], VR.ev ht x⟩
  · rename_i x ho
    simp at h; subst h
    exact ⟨a.eval x, by simp [execOp, ho], VR.ev ht x⟩
  · rename_i c x y ho
    split at h
    · rename_i b hb
      simp at h; subst h
      have hc := VR.ev ht c
      rw [hb] at hc
      have hcv : a.eval c = .bool b := by
        generalize a.eval c = z at hc
        cases hc; rfl
      refine ⟨if b then a.eval x else a.eval y, by simp [execOp, ho, hcv, asBool], ?_⟩
      cases b
      · exact VR.ev ht y
      · exact VR.ev ht x
    · cases h
  · rename_i T ps ho
    simp only [Option.map_eq_some_iff] at h
    obtain ⟨⟨v', act⟩, hb, rfl⟩ := h
    obtain ⟨_, hy⟩ := build_ok (w := w) (partsR_map ht ps) hb
    exact lift hy (by simp only [execOp, ho])
  · rename_i x ho
    have hx := VR.ev ht x
    split at h
    · rename_i i k off he
      simp at h; subst h
      rw [he] at hx
      refine ⟨a.eval x, ?_, hx⟩
      generalize hz : a.eval x = z at hx
      cases hx
      simp [execOp, ho, hz]
    · rename_i cs off he
      simp at h; subst h
      rw [he] at hx
      refine ⟨a.eval x, ?_, hx⟩
      generalize hz : a.eval x = z at hx
      cases hx
      simp [execOp, ho, hz]
    · rename_i g fa fb he
      simp at h; subst h
      rw [he] at hx
      refine ⟨a.eval x, ?_, hx⟩
      generalize hz : a.eval x = z at hx
      cases hx
      simp [execOp, ho, hz]
    · rename_i tt p he
      simp at h; subst h
      rw [he] at hx
      refine ⟨a.eval x, ?_, hx⟩
      generalize hz : a.eval x = z at hx
      cases hx
      simp [execOp, ho, hz]
    · exact hgen h
  · rename_i T x ho
    have hx := VR.ev ht x
    split at h
    · cases h
    · cases h
    · rename_i d hne hu
      simp at h; subst h
      refine lift (s := Instr.makeInterface T (a.eval x)) ⟨.iface T (a.eval x), ?_, .iface _ _ _ _ hx⟩ (by simp only [execOp, ho])
      unfold Instr.makeInterface
      simp only [Sem.run_bind, run_under hu, Result.andThen_ok]
      cases d <;> first | rfl | exact absurd rfl (hne _)
  · rename_i f fa fb ho
    simp at h; subst h
    obtain ⟨a1, a2⟩ := vrs_map ht fa
    obtain ⟨b1, b2⟩ := vrs_map ht fb
    exact lift (s := Instr.makeFunc f (fa.map a.eval) (fb.map a.eval)) ⟨.func f (fa.map a.eval) (fb.map a.eval), by simp [Instr.makeFunc], .fn _ _ _ _ _ _ a1 a2 b1 b2⟩ (by simp only [execOp, ho])
  · rename_i T x lo hi mx ho
    rcases orElse_cases h with h | h
    · exact lift (slice_ok hm (VR.ev ht x) (optR_map ht lo) (optR_map ht hi) (optR_map ht mx) h) (by simp only [execOp, ho])
    · exact hgen h
  · rename_i S x f ho
    exact lift (fieldAddr_ok (VR.ev ht x) h) (by simp only [execOp, ho])
  · rename_i S x f ho
    exact lift (field_ok (VR.ev ht x) h) (by simp only [execOp, ho])
  · rename_i T x ix ho
    exact lift (indexAddr_ok hm (VR.ev ht x) (VR.ev ht ix) h) (by simp only [execOp, ho])
  · rename_i x k ho
    split at h
    · rename_i cs he
      have hx := VR.ev ht x
      rw [he] at hx
      exact lift (extract_ok hx h) (by simp only [execOp, ho])
    · exact hgen h
  · rename_i x xT T ok ho
    split at h
    · cases h
    · rename_i tt p d hni he hu
      split at h
      · rename_i hT
        subst hT
        simp at h; subst h
        have hx := VR.ev ht x
        rw [he] at hx
        generalize hz : a.eval x = z at hx
        cases hx with
        | iface _ _ _ y hy =>
          refine lift (s := Instr.typeAssert (.iface tt y) xT tt ok) ⟨if ok then .tuple #[y, .bool true] else y, ?_, by cases ok <;> first | exact hy | exact hy.tup2 (.v _ _)⟩ (by simp only [execOp, ho, hz])
          unfold Instr.typeAssert
          simp only [Sem.run_bind, run_under hu, Result.andThen_ok]
          cases d <;> first | (simp; done) | exact absurd rfl (hni _)
      · cases h
    · cases h
  · rename_i op T x y yT ho
    cases y with
    | const c =>
      rcases orElse_cases h with h | h
      · refine lift (eqNil_ok (w := w) (VR.ev ht x) (VR.ofValue F ι c) h x c) ?_
        simp only [execOp, ho, Act.eval]
      · exact hgen h
    | _ => exact hgen h
  · exact hgen h

/-! ### The operations that read, make or write memory -/
def pMakeMap (P : Program) (id : Id) (T : TypeId) (r : Option PV) : Option (PV × SAct) :=
  match szI P T, r with
  | some (_ + 1), none => some (.mp id, .new (.map [] 0))
  | _, _ => none

/-- Is it an operation that touches memory? -/
def isMem : Op → Bool
  | .alloc _ | .box _ _ | .buildSlice _ _ _ | .load _ _ | .store _ _ _ | .makeMap _ _ | .makeSlice _ _ _ | .lookup _ _ _ _ | .mapUpdate _ _ _ _ | .mapEntry _ _ _ | .entryStore _ _ _ _ => true
  | .call { callee := .builtin b, .. } => match b with
    | .append | .copy | .clear | .delete | .len => true
    | _ => false
  | _ => false

def pMem (P : Program) (id : Id) (σ : Sto) (e : Operand → PV) (o : Oper) : Option (PV × SAct) :=
  match o.op with
  | .alloc T => pAlloc P id T
  | .box T x => pBox P id T (e x)
  | .buildSlice T n ps => pBuildSlice P id T n (ps.toList.map fun q => (q.1, e q.2))
  | .load T a => pLoad P σ T (e a)
  | .store T a x => pStore P σ T (e a) (e x)
  | .makeMap T r => pMakeMap P id T (r.map e)
  | .makeSlice T l c => pMakeSlice P id T (e l) (e c)
  | .lookup T m k ok => (pLookup P σ T (e m) (e k) ok).map (·, .no)
  | .mapUpdate T m k x => pMapUpdate P σ T (e m) (e k) (e x)
  | .mapEntry T m k => pMapEntry P σ T (e m) (e k)
  | .entryStore _ m s x => pEntryStore σ (e m) (e s) (e x)
  | .call { callee := .builtin b, args, argTypes } => match b, args.toList, argTypes.toList with
    | .append, [s, x], [T, T'] => if T = T' then pAppend P id σ T (e s) (e x) else none
    | .copy, [d, x], [T, _] => pCopy P σ T (e d) (e x)
    | .clear, [d], [T] => pClear P σ T (e d)
    | .delete, [m, k], [T, _] => pDelete P σ T (e m) (e k)
    | .len, [x], [T] => (pLen P σ T (e x)).map (·, .no)
    | _, _, _ => none
  | _ => none

theorem arr_of_toList1 {α : Type} {xs : Array α} {a : α} (h : xs.toList = [a]) : xs = #[a] := by rw [← Array.toArray_toList (xs := xs), h]
theorem arr_of_toList2 {α : Type} {xs : Array α} {a b : α} (h : xs.toList = [a, b]) : xs = #[a, b] := by rw [← Array.toArray_toList (xs := xs), h]

theorem pMem_ok {P : Program} {base : Nat} {F : Froz} {ι : Loc} {σ : Sto} {w : World} (hm : Mem P base F ι σ w) {id : Id} (hf : ι id = none) (hs : σ id = none) {t : Nat → PV} {a : Act} (ht : ∀ i, VR F ι (t i) (a.tmps.getD i undef)) {o : Oper} {v : PV} {act : SAct}
    (h : pMem P id σ (ev t) o = some (v, act)) : OpOK P base F ι id w (execOp a.eval o) v (act.app id σ) := by
  have unitOK : ∀ {s : Sem Unit}, (v = .tup [] ∧ ∃ w', s.run P w = .ok () w' ∧ (∀ id, Mem P base F ι (act.app id σ) w') ∧ Below base w w') → execOp a.eval o = (do s; pure .skip) → OpOK P base F ι id w (execOp a.eval o) v (act.app id σ) := by
    rintro s ⟨rfl, w', hr, hm', hb⟩ he
    exact ⟨.skip, w', ι, by rw [he]; simp [hr], .inr ⟨rfl, rfl⟩, hm' id, Grow.refl _ _, hb, fun _ _ => rfl⟩
  have valOK : ∀ {s : Sem Value}, (∃ y w', s.run P w = .ok y w' ∧ VR F ι v y ∧ (∀ id, Mem P base F ι (act.app id σ) w') ∧ Below base w w') → execOp a.eval o = (do pure (.value (← s))) → OpOK P base F ι id w (execOp a.eval o) v (act.app id σ) := by
    rintro s ⟨y, w', hr, hv, hm', hb⟩ he
    exact ⟨.value y, w', ι, by rw [he]; simp [hr], .inl ⟨y, rfl, hv⟩, hm' id, Grow.refl _ _, hb, fun _ _ => rfl⟩
  have readOK : ∀ {s : Sem Value}, act = .no → (∃ y, s.run P w = .ok y w ∧ VR F ι v y) → execOp a.eval o = (do pure (.value (← s))) → OpOK P base F ι id w (execOp a.eval o) v (act.app id σ) := by
    rintro s rfl ⟨y, hr, hv⟩ he
    exact OpOK.pure hm (by rw [he]; simp [hr]) hv
  unfold pMem at h
  split at h
  · rename_i T ho
    have := alloc_ok (P := P) hm hf hs h
    simpa only [execOp, ho] using this
  · rename_i T x ho
    have := box_ok (P := P) hm hf hs (VR.ev ht x) h
    simpa only [execOp, ho] using this
  · rename_i T n ps ho
    have := buildSlice_ok (P := P) hm hf hs (partsR_map ht ps) h
    simpa only [execOp, ho] using this
  · rename_i T x ho
    obtain ⟨h1, h2⟩ := load_ok hm (VR.ev ht x) h
    exact readOK h1 h2 (by simp only [execOp, ho])
  · rename_i T x y ho
    obtain ⟨h1, w', h2, h3⟩ := store_ok hm (VR.ev ht x) (VR.ev ht y) h
    exact unitOK (s := Instr.storeAt T (a.eval x) (a.eval y)) ⟨h1, w', h2, fun i => (h3 i).1, (h3 id).2⟩ (by simp only [execOp, ho])
  · rename_i T r ho
    unfold pMakeMap at h
    split at h
    · rename_i sz hsz hr
      simp only [Option.some.injEq, Prod.mk.injEq] at h
      obtain ⟨rfl, rfl⟩ := h
      have hB : BlkOK F (upd ι id (some (w.heap.size, T, sz + 1, 0))) (w.alloc (.map #[] 0)) w.heap.size T (sz + 1) 0 (.map [] 0) :=
        ⟨#[], by show (w.heap.push _)[w.heap.size]? = _; simp, rfl, fun j k p n h => by simp at h⟩
      obtain ⟨m1, g1, b1⟩ := hm.new hf hs (.map #[] 0) T (sz + 1) 0 (by omega) hsz (by simp [maxLen]) _ hB
      refine ⟨_, _, _, ?_, .inl ⟨.map (some w.heap.size), rfl, .mp _ _ _ _ _ _ (upd_same _ _ _) (by omega)⟩, m1, g1, b1, fun j hj => upd_ne _ _ hj⟩
      have hrn : r = none := by cases r <;> simp_all
      simp only [execOp, ho, hrn, Option.map_none, Instr.makeMap, Sem.run_bind, run_newObj, Result.andThen_ok, Sem.run_pure]
      rfl
    · cases h
  · rename_i T l c ho
    have := makeSlice_ok (P := P) hm hf hs (VR.ev ht l) (VR.ev ht c) h
    simpa only [execOp, ho] using this
  · rename_i T m k ok ho
    simp only [Option.map_eq_some_iff, Prod.mk.injEq] at h
    obtain ⟨v', h', rfl, rfl⟩ := h
    exact readOK rfl (lookup_ok hm (VR.ev ht m) (VR.ev ht k) h') (by simp only [execOp, ho])
  · rename_i T m k x ho
    exact unitOK (mapUpdate_ok hm (VR.ev ht m) (VR.ev ht k) (VR.ev ht x) h) (by simp only [execOp, ho])
  · rename_i T m k ho
    exact valOK (mapEntry_ok hm (VR.ev ht m) (VR.ev ht k) h) (by simp only [execOp, ho])
  · rename_i T m s x ho
    exact unitOK (entryStore_ok (T := T) hm (VR.ev ht m) (VR.ev ht s) (VR.ev ht x) h) (by simp only [execOp, ho])
  · rename_i b args argTypes ho
    split at h
    · rename_i s x T T' ha hT
      split at h
      · rename_i hTT
        subst hTT
        have e1 := arr_of_toList2 ha
        have e2 := arr_of_toList2 hT
        subst e1; subst e2
        have := append_ok (P := P) (ty := o.type) hm hf hs (VR.ev ht s) (VR.ev ht x) h
        simpa only [execOp, ho, resolve, invoke, builtin, pure_bind, List.map_toArray, List.map_cons, List.map_nil] using this
      · cases h
    · rename_i d x T T' ha hT
      have e1 := arr_of_toList2 ha
      have e2 := arr_of_toList2 hT
      subst e1; subst e2
      exact valOK (copy_ok (T2 := T') (ty := o.type) hm (VR.ev ht d) (VR.ev ht x) h) (by simp only [execOp, ho, resolve, invoke, builtin, pure_bind, List.map_toArray, List.map_cons, List.map_nil])
    · rename_i d T ha hT
      have e1 := arr_of_toList1 ha
      have e2 := arr_of_toList1 hT
      subst e1; subst e2
      exact valOK (clear_ok (ty := o.type) hm (VR.ev ht d) h) (by simp only [execOp, ho, resolve, invoke, builtin, pure_bind, List.map_toArray, List.map_cons, List.map_nil])
    · rename_i m k T T' ha hT
      have e1 := arr_of_toList2 ha
      have e2 := arr_of_toList2 hT
      subst e1; subst e2
      exact valOK (delete_ok (T2 := T') (ty := o.type) hm (VR.ev ht m) (VR.ev ht k) h) (by simp only [execOp, ho, resolve, invoke, builtin, pure_bind, List.map_toArray, List.map_cons, List.map_nil])
    · rename_i x T ha hT
      have e1 := arr_of_toList1 ha
      have e2 := arr_of_toList1 hT
      subst e1; subst e2
      simp only [Option.map_eq_some_iff, Prod.mk.injEq] at h
      obtain ⟨v', h', rfl, rfl⟩ := h
      exact readOK rfl (len_ok (ty := o.type) hm (VR.ev ht x) h') (by simp only [execOp, ho, resolve, invoke, builtin, pure_bind, List.map_toArray, List.map_cons, List.map_nil])
    · cases h
  · cases h

end Go.PM
end

section
set_option linter.unusedSimpArgs false
set_option linter.unusedVariables false
set_option linter.constructorNameAsVariable false
/- Calls; one operation, carried out. -/
namespace Go.PM
open Go Go.RowKit

/-! ### Contracts -/
/-- PURE CONTRACT: called with values that stand for 'args' (memory that nobody writes), the function returns a value that stands for 'r'; what there was in memory stays. -/
def PC (P : Program) (f : FuncId) (args : List PV) (r : PV) : Prop :=
  ∀ (F : Froz) (w : World) (vals : Array Value), (∀ b o x, F b o = some x → w.cell? ⟨b, o, none⟩ = some x) → VRs F noLoc args vals →
    Calls P f vals w fun e w' => ∃ v F', e = .returned v ∧ Below w.heap.size w w' ∧ (∀ b o x, F b o = some x → F' b o = some x) ∧ (∀ b o, b < w.heap.size → F' b o = F b o) ∧
      (∀ b o x, F' b o = some x → w'.cell? ⟨b, o, none⟩ = some x) ∧ VR F' noLoc r v

structure GrowB (base : Nat) (F F' : Froz) (ι ι' : Loc) : Prop extends Grow F F' ι ι' where
  k : ∀ b o, b < base → F' b o = F b o

theorem GrowB.refl (base : Nat) (F : Froz) (ι : Loc) : GrowB base F F ι ι := ⟨Grow.refl _ _, fun _ _ _ => rfl⟩
theorem GrowB.of {base : Nat} {F : Froz} {ι ι' : Loc} (h : Grow F F ι ι') : GrowB base F F ι ι' := ⟨h, fun _ _ _ => rfl⟩
theorem GrowB.trans {base : Nat} {F F' F'' : Froz} {ι ι' ι'' : Loc} (h : GrowB base F F' ι ι') (k : GrowB base F' F'' ι' ι'') : GrowB base F F'' ι ι'' :=
  ⟨h.toGrow.trans k.toGrow, fun b o hb => (k.k b o hb).trans (h.k b o hb)⟩

/-- What stays of a call that was handed pieces of the caller's store. -/
def SRes (P : Program) (base : Nat) (id : Id) (F : Froz) (ι : Loc) (σ : Sto) (w : World) (Q : PV → Sto → Prop) (e : Ending) (w' : World) : Prop :=
  ∃ v F' ι' r σ', e = .returned v ∧ Q r σ' ∧ VR F' ι' r v ∧ Mem P base F' ι' σ' w' ∧ GrowB base F F' ι ι' ∧ Below base w w' ∧ ∀ j, ¬ id <:+ j → ι' j = ι j ∧ (σ j = none → σ' j = none)

/-- CONTRACT WITH THE STORE: the function may read and write what its arguments lead to. -/
def PCS (P : Program) (id : Id) (f : FuncId) (args : List PV) (σ : Sto) (Q : PV → Sto → Prop) : Prop :=
  (∃ r σ', Q r σ') ∧ ∀ (base : Nat) (F : Froz) (ι : Loc) (w : World) (vals : Array Value), Mem P base F ι σ w → (∀ j, id <:+ j → ι j = none ∧ σ j = none) → VRs F ι args vals →
    Calls P f vals w (SRes P base id F ι σ w Q)

/-! ### Which function is called -/
def FuncOK (P : Program) (g : FuncId) : Bool :=
  match P.funcs[g]? with
  | some fn => fn.body.isSome && fn.name != "runtime.NumGoroutine"
  | none => false

def pMethod (P : Program) (t : TypeId) (p : PV) (name : String) : Option (FuncId × PV) :=
  match P.info? t with
  | some i => match i.methods.find? (fun m => m.name == name) with
    | some m => match m.func, m.path.toList with
      | some (f, pr), [] => match P.underlying t, pr with
        | some (.pointer _), true => some (f, p)
        | some (.pointer _), false => none
        | some _, false => some (f, p)
        | _, _ => none
      | some (f, false), [s] => if s.deref then none else match fdI P s.struct s.index, p with
        | some (o, sz, true), .agg cs => (ld cs o sz true).map fun q => (f, q)
        | _, _ => none
      | _, _ => none
    | none => none
  | none => none

def pCallee (P : Program) (e : Operand → PV) (c : Call) : Option (FuncId × List PV) :=
  let args := c.args.toList.map e
  match c.callee with
  | .builtin _ => none
  | .invoke r name => match e r with
    | .iface t p => (pMethod P t p name).map fun (f, q) => (f, q :: args)
    | _ => none
  | .value f => match e f with
    | .fn (.func g) first captured => some (g, first ++ args ++ captured)
    | .fn (.method name) first _ => match first ++ args with
      | .iface t p :: rest => (pMethod P t p name).map fun (f, q) => (f, q :: rest)
      | _ => none
    | .fn (.methodOf T name) first _ => match P.underlying T, first ++ args with
      | some (.interface _), .iface t p :: rest => (pMethod P t p name).map fun (f, q) => (f, q :: rest)
      | _, _ => none
    | _ => none

def isPtrD : TypeDesc → Bool
  | .pointer _ => true
  | _ => false

theorem made_depth : ∃ n, Made.depth = n + 1 := ⟨Made.depth - 1, by decide⟩

theorem method_ok {P : Program} {F : Froz} {ι : Loc} {w : World} {t : TypeId} {p q : PV} {x : Value} {name : String} {f : FuncId} (hx : VR F ι p x) (h : pMethod P t p name = some (f, q)) :
    ∃ y, (Go.method (P.types.size + Made.depth) t x name).run P w = .ok (f, y) w ∧ VR F ι q y := by
  obtain ⟨n, hn⟩ : ∃ n, P.types.size + Made.depth = n + 1 := by
    obtain ⟨d, hd⟩ := made_depth
    exact ⟨P.types.size + d, by omega⟩
  rw [hn]
  unfold pMethod at h
  split at h
  · rename_i i hi
    split at h
    · rename_i m hm
      split at h
      · rename_i f' pr hfn hpath
        have hgo : ∀ d, P.underlying t = some d → ((isPtrD d = true ∧ pr = true) ∨ (isPtrD d = false ∧ pr = false)) → (Go.method (n + 1) t x name).run P w = .ok (f', x) w := by
          intro d hd hc
          unfold Go.method
          simp only [Sem.run_bind, run_info hi, Result.andThen_ok, hm, hpath, Go.follow, Sem.run_pure, hfn]
          rcases hc with ⟨h1, rfl⟩ | ⟨h1, rfl⟩
          · cases d <;> simp [isPtrD] at h1
            simp [Go.receiverAt, run_under hd, Go.Place.get]
          · cases d <;> simp [isPtrD] at h1 <;> simp [Go.receiverAt, run_under hd, Go.Place.get]
        split at h
        · rename_i e hu
          simp at h
          obtain ⟨rfl, rfl⟩ := h
          exact ⟨x, hgo _ hu (.inl ⟨rfl, rfl⟩), hx⟩
        · cases h
        · rename_i d hne hu
          simp at h
          obtain ⟨rfl, rfl⟩ := h
          refine ⟨x, hgo _ hu (.inr ⟨?_, rfl⟩), hx⟩
          cases d <;> first | rfl | exact absurd rfl (hne _)
        · cases h
      · rename_i f' s hfn hpath
        split at h
        · cases h
        · rename_i hder
          split at h
          · rename_i o sz cs hfd
            simp only [Option.map_eq_some_iff, Prod.mk.injEq] at h
            obtain ⟨q', hq, rfl, rfl⟩ := h
            obtain ⟨fs, fd, hu, hf, ho, hty⟩ := fdI_spec hfd
            cases hx with
            | agg _ _ xs hl hv =>
              obtain ⟨y, hy, hvy⟩ := field_ok (P := P) (w := w) (S := s.struct) (f := s.index) (.agg _ _ xs hl hv) (v := q') (by unfold pField; rw [hfd]; exact hq)
              refine ⟨y, ?_, hvy⟩
              simp only [Instr.field, Sem.run_bind, run_under hu, Result.andThen_ok, hf, asAgg, Sem.run_pure] at hy
              unfold Go.method
              have hder' : s.deref = false := by simpa using hder
              simp only [Sem.run_bind, run_info hi, Result.andThen_ok, hm, hpath, Go.follow, run_under hu, hf, hder', Bool.false_eq_true, if_false, hy, hfn, Sem.run_pure]
              have hag : ∃ d, P.underlying fd.type = some d ∧ aggD d = true := by
                unfold tyI at hty
                split at hty
                · rename_i i' d' hi' hd'
                  simp at hty
                  exact ⟨d', hd', hty.2⟩
                · cases hty
              obtain ⟨d, hd, hda⟩ := hag
              cases d <;> simp [aggD] at hda <;> simp [Go.receiverAt, run_under hd, Go.Place.get]
          · cases h
      · cases h
    · cases h
  · cases h

theorem callFunc_ok {P : Program} {w : World} {g : FuncId} (h : FuncOK P g = true) (vals : Array Value) : (callFunc g vals).run P w = .ok (.enter g vals) w := by
  unfold FuncOK at h
  split at h
  · rename_i fn hf
    simp at h
    obtain ⟨h1, h2⟩ := h
    obtain ⟨b, hb⟩ := Option.isSome_iff_exists.1 h1
    simp [callFunc, hf, h2, hb]
  · cases h

theorem VRs.append {F : Froz} {ι : Loc} {a b : List PV} {xs ys : Array Value} (h : VRs F ι a xs) (k : VRs F ι b ys) : VRs F ι (a ++ b) (xs ++ ys) := by
  refine ⟨by simp [h.1, k.1], fun j p hj => ?_⟩
  rw [Array.getD_eq_getD_getElem?]
  by_cases hl : j < a.length
  · rw [List.getElem?_append_left hl] at hj
    rw [Array.getElem?_append_left (by rw [h.1]; exact hl), ← Array.getD_eq_getD_getElem?]
    exact h.2 j p hj
  · rw [List.getElem?_append_right (by omega)] at hj
    rw [Array.getElem?_append_right (by rw [h.1]; omega), ← Array.getD_eq_getD_getElem?, h.1]
    exact k.2 _ p hj

theorem VRs.cons {F : Froz} {ι : Loc} {p : PV} {x : Value} {a : List PV} {xs : Array Value} (h : VR F ι p x) (k : VRs F ι a xs) : VRs F ι (p :: a) (#[x] ++ xs) :=
  VRs.append (a := [p]) (xs := #[x]) ⟨rfl, h.cells1⟩ k

/-- The first of a list of values, and the others. -/
theorem VRs.uncons {F : Froz} {ι : Loc} {p : PV} {a : List PV} {xs : Array Value} (h : VRs F ι (p :: a) xs) : ∃ x, xs[0]? = some x ∧ VR F ι p x ∧ VRs F ι a (xs.extract 1 xs.size) := by
  have hs := h.1
  simp at hs
  have h0 : 0 < xs.size := by omega
  refine ⟨xs[0], by simp [h0], ?_, by simp; omega, fun j q hj => ?_⟩
  · have := h.2 0 p (by simp)
    simpa [Array.getD, h0] using this
  · have := h.2 (j + 1) q (by simpa using hj)
    rw [Array.getD_eq_getD_getElem?] at this ⊢
    rw [Array.getElem?_extract]
    have hj' := (List.getElem?_eq_some_iff.1 hj).1
    rw [if_pos (by omega), Nat.add_comm 1 j]
    exact this

theorem callee_ok {P : Program} {F : Froz} {ι : Loc} {w : World} {t : Nat → PV} {a : Act} (ht : ∀ i, VR F ι (t i) (a.tmps.getD i undef)) {o : Oper} {c : Call} (ho : o.op = .call c) {g : FuncId} {ps : List PV} (h : pCallee P (ev t) c = some (g, ps)) (hg : FuncOK P g = true) :
    ∃ vals, (execOp a.eval o).run P w = .ok (.enter g vals) w ∧ VRs F ι ps vals := by
  have hargs := vrs_map ht c.args
  have hmeth : ∀ {tt : TypeId} {p : PV} {x : Value} {name : String} {rest : List PV} {ys : Array Value}, VR F ι p x → VRs F ι rest ys → (pMethod P tt p name).map (fun (f, q) => (f, q :: rest)) = some (g, ps) →
      ∃ vals, (callMethod (.iface tt x) name ys).run P w = .ok (.enter g vals) w ∧ VRs F ι ps vals := by
    intro tt p x name rest ys hx hys hm
    simp only [Option.map_eq_some_iff, Prod.mk.injEq] at hm
    obtain ⟨⟨f, q⟩, hm, rfl, rfl⟩ := hm
    obtain ⟨y, hy, hvy⟩ := method_ok (w := w) hx hm
    exact ⟨#[y] ++ ys, by simp [callMethod, hy, callFunc_ok hg], VRs.cons hvy hys⟩
  unfold pCallee at h
  simp only at h
  split at h
  · cases h
  · rename_i r name hc
    split at h
    · rename_i tt p he
      have hr := VR.ev ht r
      rw [he] at hr
      generalize hz : a.eval r = z at hr
      cases hr with
      | iface _ _ _ x hx =>
        obtain ⟨vals, h1, h2⟩ := hmeth hx hargs h
        refine ⟨vals, ?_, h2⟩
        simp only [execOp, ho, resolve, hc, hz, Sem.run_bind, Sem.run_pure, Result.andThen_ok, invoke]
        have e1 : (#[Value.iface tt x] ++ c.args.map a.eval)[0]? = some (.iface tt x) := by rw [Array.getElem?_append_left (by simp)]; rfl
        have e2 : (#[Value.iface tt x] ++ c.args.map a.eval).extract 1 (#[Value.iface tt x] ++ c.args.map a.eval).size = c.args.map a.eval := by
          apply Array.ext'
          simp only [Array.toList_extract, List.extract_eq_take_drop, Array.toList_append, List.cons_append, List.nil_append, List.drop_succ_cons, List.drop_zero, Array.size_append, List.size_toArray, List.length_cons, List.length_nil]
          exact List.take_of_length_le (by simp)
        simp only [e1, e2]
        exact h1
    · cases h
  · rename_i f hc
    split at h
    · rename_i g' first captured he
      simp at h
      obtain ⟨rfl, rfl⟩ := h
      have hf := VR.ev ht f
      rw [he] at hf
      generalize hz : a.eval f = z at hf
      cases hf with
      | fn _ _ _ _ xs ys hl h1 hl' h1' =>
        refine ⟨xs ++ c.args.map a.eval ++ ys, ?_, ?_⟩
        · simp only [execOp, ho, resolve, hc, hz, Deferred.ofValue, Sem.run_bind, Sem.run_pure, Result.andThen_ok, invoke, callFunc_ok hg]
        · have := (VRs.append (a := first) (xs := xs) ⟨hl, h1⟩ hargs).append (b := captured) (ys := ys) ⟨hl', h1'⟩
          simpa using this
    · rename_i name first captured he
      split at h
      · rename_i tt p rest hl0
        have hf := VR.ev ht f
        rw [he] at hf
        generalize hz : a.eval f = z at hf
        cases hf with
        | fn _ _ _ _ xs ys hl h1 hl' h1' =>
          have hall := VRs.append (a := first) (xs := xs) ⟨hl, h1⟩ hargs
          rw [hl0] at hall
          obtain ⟨x0, hx0, hv0, hrest⟩ := hall.uncons
          cases hv0 with
          | iface _ _ _ x hx =>
            obtain ⟨vals, k1, k2⟩ := hmeth hx hrest h
            refine ⟨vals, ?_, k2⟩
            simp only [execOp, ho, resolve, hc, hz, Deferred.ofValue, Sem.run_bind, Sem.run_pure, Result.andThen_ok, invoke, hx0]
            exact k1
      · cases h
    · rename_i T name first captured he
      split at h
      · rename_i ms tt p rest hu hl0
        have hf := VR.ev ht f
        rw [he] at hf
        generalize hz : a.eval f = z at hf
        cases hf with
        | fn _ _ _ _ xs ys hl h1 hl' h1' =>
          have hall := VRs.append (a := first) (xs := xs) ⟨hl, h1⟩ hargs
          rw [hl0] at hall
          obtain ⟨x0, hx0, hv0, hrest⟩ := hall.uncons
          cases hv0 with
          | iface _ _ _ x hx =>
            obtain ⟨vals, k1, k2⟩ := hmeth hx hrest h
            refine ⟨vals, ?_, k2⟩
            simp only [execOp, ho, resolve, hc, hz, Deferred.ofValue, Sem.run_bind, Sem.run_pure, Result.andThen_ok, invoke, hx0, run_under hu]
            exact k1
      · cases h
    · cases h

end Go.PM
end

section
set_option linter.unusedSimpArgs false
set_option linter.unusedVariables false
set_option linter.constructorNameAsVariable false
/- A pure state beside the model's; one operation carried out on both. -/
namespace Go.PM
open Go Go.RowKit

/-! ### Kinds of operations -/
inductive Kd where
  | p | r | a | w | f | s | q
  deriving DecidableEq

/-- What is known of a call: 'f': it hangs on its arguments alone, frozen; 'q': it leaves the store as it is; 's': it may write. -/
inductive CK where
  | f | q | s
  deriving DecidableEq

def kindOf (M : Call → CK) : Op → Kd
  | .call c => match c.callee with
    | .builtin .append | .builtin .copy | .builtin .clear | .builtin .delete => .w
    | .builtin .len => .r
    | .builtin _ => .p
    | _ => match M c with
      | .f => .f
      | .q => .q
      | .s => .s
  | .alloc _ | .box _ _ | .buildSlice _ _ _ | .makeMap _ _ | .makeSlice _ _ _ => .a
  | .load _ _ | .lookup _ _ _ _ => .r
  | .store _ _ _ | .mapUpdate _ _ _ _ | .mapEntry _ _ _ | .entryStore _ _ _ _ => .w
  | _ => .p

def putT (t : Nat → PV) (d : Option Tmp) (v : PV) : Nat → PV :=
  match d with
  | some d => fun j => if j = d then v else t j
  | none => t

/-- How deep a freezing looks. -/
def depthF : Nat := 12

def PStep (P : Program) (M : Call → CK) (id : Id) (o : Oper) (s : PSt) (K : PSt → Prop) : Prop :=
  match kindOf M o.op with
  | .p => ∃ v, pOp P (ev s.t) o = some v ∧ K { s with t := putT s.t o.dst v }
  | .f => match o.op with
    | .call c => ∃ g args args' r, pCallee P (ev s.t) c = some (g, args) ∧ FuncOK P g = true ∧ mapO (frz depthF s.σ) args = some args' ∧ PC P g args' r ∧
        K { s with t := putT s.t o.dst r, σ := mark s.σ (args.flatMap (frzIds depthF s.σ)) }
    | _ => False
  | .q => match o.op with
    | .call c => ∃ g args r, pCallee P (ev s.t) c = some (g, args) ∧ FuncOK P g = true ∧ PCS P id g args s.σ (fun r' σ' => r' = r ∧ σ' = s.σ) ∧ K { s with t := putT s.t o.dst r }
    | _ => False
  | .s => match o.op with
    | .call c => ∃ g args, pCallee P (ev s.t) c = some (g, args) ∧ FuncOK P g = true ∧ PCS P id g args s.σ (fun r σ' => K { s with t := putT s.t o.dst r, σ := σ' })
    | _ => False
  | _ => ∃ v act, pMem P id s.σ (ev s.t) o = some (v, act) ∧ K { s with t := putT s.t o.dst v, σ := act.app id s.σ }

/-- The pure state stands for the model's. -/
structure Sim (P : Program) (base N : Nat) (F : Froz) (ι : Loc) (s : PSt) (a : Act) (w : World) : Prop where
  mem : Mem P base F ι s.σ w
  tmps : ∀ i, VR F ι (s.t i) (a.tmps.getD i undef)
  size : a.tmps.size = N
  defers : a.defers = []

theorem Sim.put {P : Program} {base N : Nat} {F F' : Froz} {ι ι' : Loc} {s : PSt} {a : Act} {w w' : World} (h : Sim P base N F ι s a w) {σ' : Sto} (hm : Mem P base F' ι' σ' w') (g : Grow F F' ι ι') {d : Option Tmp} (hd : ∀ k, d = some k → k < N) {v : PV} {x : Value} (hv : VR F' ι' v x) :
    Sim P base N F' ι' { s with t := putT s.t d v, σ := σ' } (a.put d x) w' := by
  refine ⟨hm, fun i => ?_, ?_, ?_⟩
  · cases d with
    | none => exact (h.tmps i).grow g
    | some k =>
      simp only [putT, Act.put]
      rw [Array.getD_eq_getD_getElem?, Array.getElem?_setIfInBounds]
      by_cases hi : k = i
      · subst hi
        rw [if_pos rfl, if_pos rfl, if_pos (by rw [h.size]; exact hd _ rfl)]
        exact hv
      · rw [if_neg (fun e => hi e.symm), if_neg hi, ← Array.getD_eq_getD_getElem?]
        exact (h.tmps i).grow g
  · cases d with
    | none => exact h.size
    | some k => simp [Act.put, h.size]
  · cases d with
    | none => exact h.defers
    | some k => exact h.defers

/-- What stands behind an operation. -/
def After (P : Program) (base N : Nat) (id : Id) (F : Froz) (ι : Loc) (s : PSt) (w : World) (K : PSt → Prop) (a' : Act) (w' : World) : Prop :=
  ∃ s' F' ι', K s' ∧ s'.c = s.c ∧ Sim P base N F' ι' s' a' w' ∧ GrowB base F F' ι ι' ∧ Below base w w' ∧ ∀ j, ¬ id <:+ j → ι' j = ι j ∧ (s.σ j = none → s'.σ j = none)

theorem act_none {act : SAct} {id : Id} {σ : Sto} {P : Program} {e : Operand → PV} {o : Oper} {v : PV} (h : pMem P id σ e o = some (v, act)) : ∀ j, ¬ id <:+ j → σ j = none → act.app id σ j = none := by
  intro j hj hσ
  have hne : j ≠ id := by rintro rfl; exact hj (List.suffix_refl _)
  cases act with
  | no => exact hσ
  | new B => simp only [SAct.app]; rw [upd_ne _ _ hne]; exact hσ
  | set i B =>
    simp only [SAct.app]
    by_cases hji : j = i
    · exfalso
      subst hji
      -- what is written was there
      unfold pMem at h
      split at h <;> (try simp only [Option.map_eq_some_iff, Prod.mk.injEq] at h) <;> first
        | (obtain ⟨_, _, _, hh⟩ := h; cases hh; done)
        | (unfold pAlloc at h; split at h <;> (try split at h) <;> simp at h; done)
        | (unfold pBox at h; split at h <;> simp at h; done)
        | (unfold pBuildSlice at h; split at h <;> (try split at h) <;> (try split at h) <;> simp at h; done)
        | (unfold pLoad at h; (repeat' split at h) <;> simp at h; done)
        | (unfold pMakeMap at h; split at h <;> simp at h; done)
        | (unfold pMakeSlice at h; (repeat' split at h) <;> simp at h; done)
        | (unfold pStore at h; (repeat' split at h) <;> simp at h <;> (obtain ⟨_, rfl, _⟩ := h; simp_all); done)
        | (unfold pMapUpdate at h; (repeat' split at h) <;> simp at h <;> (obtain ⟨_, rfl, _⟩ := h; simp_all); done)
        | (unfold pMapEntry at h; (repeat' split at h) <;> simp at h <;> (obtain ⟨_, rfl, _⟩ := h; simp_all); done)
        | (unfold pEntryStore at h; (repeat' split at h) <;> simp at h <;> (obtain ⟨_, rfl, _⟩ := h; simp_all); done)
        | (split at h <;> first
            | (split at h <;> (try unfold pAppend at h) <;> (repeat' split at h) <;> simp at h; done)
            | (unfold pCopy at h; (repeat' split at h) <;> simp at h <;> (obtain ⟨_, rfl, _⟩ := h; simp_all); done)
            | (unfold pClear at h; (repeat' split at h) <;> simp at h <;> (obtain ⟨_, rfl, _⟩ := h; simp_all); done)
            | (unfold pDelete at h; (repeat' split at h) <;> simp at h <;> (obtain ⟨_, rfl, _⟩ := h; simp_all); done)
            | (simp only [Option.map_eq_some_iff, Prod.mk.injEq] at h; obtain ⟨_, _, _, hh⟩ := h; cases hh; done)
            | (simp at h; done))
        | (simp at h; done)
    · rw [upd_ne _ _ hji]; exact hσ
  | kill i B =>
    simp only [SAct.app]
    rw [upd_ne _ _ hne]
    by_cases hji : j = i
    · subst hji; rw [upd_same]
    · rw [upd_ne _ _ hji]; exact hσ

end Go.PM
end

section
set_option linter.unusedSimpArgs false
set_option linter.unusedVariables false
set_option linter.constructorNameAsVariable false
/- One operation carried out. -/
namespace Go.PM
open Go Go.RowKit

theorem VR.undef (F : Froz) (ι : Loc) : VR F ι (.tup []) Go.undef := .tup _ _ _ rfl fun j p h => by simp at h

theorem mark_none (σ : Sto) (ids : List Id) (j : Id) (h : σ j = none) : mark σ ids j = none := by
  unfold mark
  split <;> simp [h]

theorem frzs_ok {P : Program} {base : Nat} {F : Froz} {ι : Loc} {σ : Sto} {w : World} (hm : Mem P base F ι σ w) {n : Nat} {args args' : List PV} {vals : Array Value} (hv : VRs F ι args vals) (h : mapO (frz n σ) args = some args') :
    VRs (Fz F ι σ w (args.flatMap (frzIds n σ))) noLoc args' vals := by
  obtain ⟨g1, g2⟩ := mapO_get h
  refine ⟨by rw [hv.1, g1], fun j q hj => ?_⟩
  obtain ⟨p, hp, hf⟩ := g2 j q hj
  exact frz_ok hm _ n (hv.2 j p hp) hf (fun k hk => List.mem_flatMap.2 ⟨p, List.mem_of_getElem? hp, hk⟩)

theorem step_ok {P : Program} {M : Call → CK} {base N : Nat} {id : Id} {F : Froz} {ι : Loc} {o : Oper} {s : PSt} {K : PSt → Prop} {a : Act} {w : World} {Q : Exit → Act → World → Prop} (h : PStep P M id o s K) (sim : Sim P base N F ι s a w)
    (hfresh : ∀ j, id <:+ j → ι j = none ∧ s.σ j = none) (hd : ∀ k, o.dst = some k → k < N) : o.wp P a w (After P base N id F ι s w K) Q := by
  have hmemcase : (∃ v act, pMem P id s.σ (ev s.t) o = some (v, act) ∧ K { s with t := putT s.t o.dst v, σ := act.app id s.σ }) → o.wp P a w (After P base N id F ι s w K) Q := by
    rintro ⟨v, act, hv, hK⟩
    obtain ⟨hf1, hf2⟩ := hfresh id (List.suffix_refl _)
    obtain ⟨nx, w', ι', hr, hy, hm', hg, hb, hι⟩ := pMem_ok sim.mem hf1 hf2 sim.tmps hv
    unfold Oper.wp
    rw [hr]
    have fin : ∀ x, VR F ι' v x → After P base N id F ι s w K (a.put o.dst x) w' := fun x hx =>
      ⟨_, F, ι', hK, rfl, sim.put hm' hg hd hx, GrowB.of hg, hb, fun j hj => ⟨hι j (by rintro rfl; exact hj (List.suffix_refl _)), act_none hv j hj⟩⟩
    rcases hy with ⟨x, rfl, hx⟩ | ⟨rfl, rfl⟩
    · exact fin x hx
    · exact fin _ (VR.undef _ _)
  unfold PStep at h
  split at h
  · -- p
    obtain ⟨v, hv, hK⟩ := h
    obtain ⟨y, hr, hy⟩ := pOp_ok (w := w) sim.mem sim.tmps hv
    unfold Oper.wp
    rw [hr]
    exact ⟨_, F, ι, hK, rfl, sim.put sim.mem (Grow.refl _ _) hd hy, GrowB.refl _ _ _, Below.refl _ _, fun j _ => ⟨rfl, fun h => h⟩⟩
  · -- f
    split at h
    · rename_i c ho
      obtain ⟨g, args, args', r, hc, hg, hfz, hpc, hK⟩ := h
      obtain ⟨vals, hr, hv⟩ := callee_ok (w := w) sim.tmps ho hc hg
      have hm1 := sim.mem.mark (args.flatMap (frzIds depthF s.σ))
      have hv1 := frzs_ok sim.mem hv hfz
      unfold Oper.wp
      rw [hr]
      show Calls P g vals w _
      refine (hpc _ w vals (fun b o x hx => hm1.val b o x hx) hv1).mono ?_
      rintro e w' ⟨v, F', rfl, hb, hF, hold, hval, hvr⟩
      have hm2 := hm1.ext hb hF hold hval
      have hgr : GrowB base F F' ι ι := ⟨⟨fun b o x hx => hF b o x (Fz_old sim.mem _ b o x hx), fun _ _ h => h⟩, fun b o hb => (hold b o (Nat.lt_of_lt_of_le hb sim.mem.bd)).trans (Fz_low sim.mem _ b o hb)⟩
      exact ⟨_, F', ι, hK, rfl, sim.put hm2 hgr.toGrow hd (hvr.grow ⟨fun _ _ _ h => h, fun _ _ h => by cases h⟩), hgr, hb.mono sim.mem.bd, fun j _ => ⟨rfl, fun h => mark_none _ _ _ h⟩⟩
    · exact h.elim
  · -- q
    split at h
    · rename_i c ho
      obtain ⟨g, args, r, hc, hg, hpc, hK⟩ := h
      obtain ⟨vals, hr, hv⟩ := callee_ok (w := w) sim.tmps ho hc hg
      unfold Oper.wp
      rw [hr]
      show Calls P g vals w _
      refine (hpc.2 base F ι w vals sim.mem hfresh hv).mono ?_
      rintro e w' ⟨v, F', ι', r', σ', rfl, ⟨rfl, rfl⟩, hvr, hm', hgr, hb, hι⟩
      exact ⟨_, F', ι', hK, rfl, sim.put hm' hgr.toGrow hd hvr, hgr, hb, hι⟩
    · exact h.elim
  · -- s
    split at h
    · rename_i c ho
      obtain ⟨g, args, hc, hg, hpc⟩ := h
      obtain ⟨vals, hr, hv⟩ := callee_ok (w := w) sim.tmps ho hc hg
      unfold Oper.wp
      rw [hr]
      show Calls P g vals w _
      refine (hpc.2 base F ι w vals sim.mem hfresh hv).mono ?_
      rintro e w' ⟨v, F', ι', r, σ', rfl, hK, hvr, hm', hgr, hb, hι⟩
      exact ⟨_, F', ι', hK, rfl, sim.put hm' hgr.toGrow hd hvr, hgr, hb, hι⟩
    · exact h.elim
  · exact hmemcase h

/-! ### Guards -/
def pWanted (ops : Array Oper) (t : Nat → PV) (o : Oper) : Option Bool :=
  match o.guard with
  | none => some true
  | some (j, want) => match (ops[j]?).bind (·.dst) with
    | some d => match t d with
      | .v (.bool b) => some (b == want)
      | .tup [] => some false
      | _ => none
    | none => some false

theorem wanted_ok {ops : Array Oper} {F : Froz} {ι : Loc} {t : Nat → PV} {a : Act} (ht : ∀ i, VR F ι (t i) (a.tmps.getD i undef)) {o : Oper} {b : Bool} (h : pWanted ops t o = some b) : Region.wanted o (yielded ops a.tmps) = b := by
  unfold pWanted at h
  unfold Region.wanted
  split at h
  · rename_i hg
    simp at h
    simp [hg, h]
  · rename_i j want hg
    simp only [hg]
    split at h
    · rename_i d hdst
      have hv := ht d
      unfold yielded
      simp only [hdst, Option.bind_some]
      split at h
      · rename_i x hx
        rw [hx] at hv
        simp at h
        subst h
        rw [Array.getD_eq_getD_getElem?] at hv
        cases hq : a.tmps[d]? with
        | none => rw [hq] at hv; cases hv
        | some z =>
          rw [hq] at hv
          cases hv
          rfl
      · rename_i hx
        rw [hx] at hv
        simp at h
        subst h
        rw [Array.getD_eq_getD_getElem?] at hv
        cases hq : a.tmps[d]? with
        | none => rfl
        | some z =>
          rw [hq] at hv
          cases hv
          rfl
      · cases h
    · rename_i hdst
      simp at h
      subst h
      unfold yielded
      simp [hdst]

/-- An operation, if its guard lets it. -/
def PStepG (P : Program) (M : Call → CK) (ops : Array Oper) (id : Id) (o : Oper) (s : PSt) (K : PSt → Prop) : Prop :=
  match pWanted ops s.t o with
  | some true => PStep P M id o s K
  | some false => K { s with t := putT s.t o.dst (.tup []) }
  | none => False

theorem stepG_ok {P : Program} {M : Call → CK} {base N : Nat} {ops : Array Oper} {i : Nat} {id : Id} {F : Froz} {ι : Loc} {o : Oper} {s : PSt} {K : PSt → Prop} {a : Act} {w : World} {Q : Exit → Act → World → Prop} (hi : ops[i]? = some o) (h : PStepG P M ops id o s K) (sim : Sim P base N F ι s a w)
    (hfresh : ∀ j, id <:+ j → ι j = none ∧ s.σ j = none) (hd : ∀ k, o.dst = some k → k < N) : wpOp P ops Q i (After P base N id F ι s w K) a w := by
  unfold wpOp
  simp only [hi]
  unfold PStepG at h
  split at h
  · rename_i hw
    rw [if_pos (wanted_ok sim.tmps hw)]
    exact .inl (step_ok h sim hfresh hd)
  · rename_i hw
    rw [if_neg (by rw [wanted_ok sim.tmps hw]; simp)]
    exact ⟨_, F, ι, h, rfl, sim.put sim.mem (Grow.refl _ _) hd (VR.undef _ _), GrowB.refl _ _ _, Below.refl _ _, fun j _ => ⟨rfl, fun h => h⟩⟩
  · exact h.elim

end Go.PM
end

section
set_option linter.unusedSimpArgs false
set_option linter.unusedVariables false
set_option linter.constructorNameAsVariable false
/- What an operation looks at; operations that may change places. -/
namespace Go.PM
open Go Go.RowKit

/-! ### Only the operands are looked at -/
theorem pGen_congr {P : Program} {e e' : Operand → PV} {o : Oper} (h : ∀ x ∈ o.op.operands, e x = e' x) : pGen P e o = pGen P e' o := by
  unfold pGen
  have h1 : o.op.operands.all (fun x => (toV (e x)).isSome) = o.op.operands.all (fun x => (toV (e' x)).isSome) := by
    rw [Bool.eq_iff_iff]
    simp only [Array.all_eq_true_iff_forall_mem]
    exact ⟨fun k x hx => by rw [← h x hx]; exact k x hx, fun k x hx => by rw [h x hx]; exact k x hx⟩
  rw [h1]
  split
  · rename_i hc
    rw [execOp_congr o (ρ := fun x => (toV (e x)).getD undef) (ρ' := fun x => (toV (e' x)).getD undef) (fun cs b he => by have := hc.1; rw [he] at this; simp [notSelect] at this) (fun x hx => by simp only [h x hx])]
  · rfl

theorem map_ops_congr {e e' : Operand → PV} {xs : Array Operand} (h : ∀ x ∈ xs, e x = e' x) : xs.toList.map e = xs.toList.map e' :=
  List.map_congr_left fun x hx => h x (by simpa using hx)
theorem map_parts_congr {e e' : Operand → PV} {ps : Array (Nat × Operand)} (h : ∀ x ∈ (ps.toList.map (·.2)).toArray, e x = e' x) : ps.toList.map (fun q => (q.1, e q.2)) = ps.toList.map (fun q => (q.1, e' q.2)) :=
  List.map_congr_left fun q hq => by
    have hx : e q.2 = e' q.2 := h q.2 (by simp; exact ⟨q.1, by simpa using hq⟩)
    rw [hx]
theorem optmap_congr {e e' : Operand → PV} {x : Option Operand} (h : ∀ y ∈ x.toArray, e y = e' y) : x.map e = x.map e' := by
  cases x with
  | none => rfl
  | some y => simp [h y (by simp)]

theorem pOp_congr {P : Program} {e e' : Operand → PV} {o : Oper} (h : ∀ x ∈ o.op.operands, e x = e' x) : pOp P e o = pOp P e' o := by
  have hg := pGen_congr (P := P) h
  unfold pOp
  split
  · rename_i ho; rw [ho] at h; simp only [Op.operands] at h; rw [h _ (by simp)]
  · rename_i ho; rw [ho] at h; simp only [Op.operands] at h; rw [h _ (by simp)]
  · rename_i ho; rw [ho] at h; simp only [Op.operands] at h; rw [h _ (by simp), h _ (by simp), h _ (by simp)]
  · rename_i ho; rw [ho] at h; simp only [Op.operands] at h; rw [map_parts_congr h]
  · rename_i ho; rw [ho] at h; simp only [Op.operands] at h; rw [h _ (by simp), hg]
  · rename_i ho; rw [ho] at h; simp only [Op.operands] at h; rw [h _ (by simp)]
  · rename_i ho; rw [ho] at h; simp only [Op.operands] at h; rw [map_ops_congr (fun x hx => h x (by simp [hx])), map_ops_congr (fun x hx => h x (by simp [hx]))]
  · rename_i ho; rw [ho] at h; simp only [Op.operands] at h; rw [h _ (by simp), optmap_congr (fun x hx => h x (by simp [hx])), optmap_congr (fun x hx => h x (by simp [hx])), optmap_congr (fun x hx => h x (by simp [hx])), hg]
  · rename_i ho; rw [ho] at h; simp only [Op.operands] at h; rw [h _ (by simp)]
  · rename_i ho; rw [ho] at h; simp only [Op.operands] at h; rw [h _ (by simp)]
  · rename_i ho; rw [ho] at h; simp only [Op.operands] at h; rw [h _ (by simp), h _ (by simp)]
  · rename_i ho; rw [ho] at h; simp only [Op.operands] at h; rw [h _ (by simp), hg]
  · rename_i ho; rw [ho] at h; simp only [Op.operands] at h; rw [h _ (by simp)]
  · rename_i ho; rw [ho] at h; simp only [Op.operands] at h; rw [h _ (by simp), hg]
  · exact hg

theorem pMem_congr {P : Program} {id : Id} {σ : Sto} {e e' : Operand → PV} {o : Oper} (h : ∀ x ∈ o.op.operands, e x = e' x) : pMem P id σ e o = pMem P id σ e' o := by
  unfold pMem
  split
  · rfl
  · rename_i ho; rw [ho] at h; simp only [Op.operands] at h
    rw [h _ (by simp)]
  · rename_i ho; rw [ho] at h; simp only [Op.operands] at h
    rw [map_parts_congr h]
  · rename_i ho; rw [ho] at h; simp only [Op.operands] at h
    rw [h _ (by simp)]
  · rename_i ho; rw [ho] at h; simp only [Op.operands] at h
    rw [h _ (by simp), h _ (by simp)]
  · rename_i ho; rw [ho] at h; simp only [Op.operands] at h
    rw [optmap_congr h]
  · rename_i ho; rw [ho] at h; simp only [Op.operands] at h
    rw [h _ (by simp), h _ (by simp)]
  · rename_i ho; rw [ho] at h; simp only [Op.operands] at h
    rw [h _ (by simp), h _ (by simp)]
  · rename_i ho; rw [ho] at h; simp only [Op.operands] at h
    rw [h _ (by simp), h _ (by simp), h _ (by simp)]
  · rename_i ho; rw [ho] at h; simp only [Op.operands] at h
    rw [h _ (by simp), h _ (by simp)]
  · rename_i ho; rw [ho] at h; simp only [Op.operands] at h
    rw [h _ (by simp), h _ (by simp), h _ (by simp)]
  · rename_i ho; rw [ho] at h; simp only [Op.operands, Call.operands] at h
    have ha : ∀ {x : Operand} {l : List Operand} {args : Array Operand}, args.toList = l → x ∈ l → x ∈ #[] ++ args := by
      intro x l args hl hx
      subst hl
      simpa using hx
    split
    · rename_i s x T T' hl _
      rw [h s (ha hl (by simp)), h x (ha hl (by simp))]
    · rename_i d x T T' hl _
      rw [h d (ha hl (by simp)), h x (ha hl (by simp))]
    · rename_i d T hl _
      rw [h d (ha hl (by simp))]
    · rename_i d x T T' hl _
      rw [h d (ha hl (by simp)), h x (ha hl (by simp))]
    · rename_i x T hl _
      rw [h x (ha hl (by simp))]
    · rfl
  · rfl

theorem pCallee_congr {P : Program} {e e' : Operand → PV} {c : Call} (h : ∀ x ∈ c.operands, e x = e' x) : pCallee P e c = pCallee P e' c := by
  unfold pCallee
  have ha : c.args.toList.map e = c.args.toList.map e' := map_ops_congr fun x hx => h x (by simp [Call.operands, hx])
  simp only [ha]
  cases hc : c.callee with
  | builtin b => rfl
  | invoke r name =>
    have : e r = e' r := h r (by simp [Call.operands, hc])
    simp only [this]
  | value f =>
    have : e f = e' f := h f (by simp [Call.operands, hc])
    simp only [this]

/-! ### Slots -/
theorem ev_putT {t : Nat → PV} {d : Option Tmp} {v : PV} {x : Operand} (h : ∀ k, d = some k → x ≠ .tmp k) : ev (putT t d v) x = ev t x := by
  cases d with
  | none => rfl
  | some k =>
    cases x with
    | tmp i =>
      have hne : i ≠ k := fun e => h k rfl (by rw [e])
      simp [ev, putT, hne]
    | _ => rfl

theorem putT_comm {t : Nat → PV} {d d' : Option Tmp} {v v' : PV} (h : ∀ k, d = some k → d' ≠ some k) : putT (putT t d v) d' v' = putT (putT t d' v') d v := by
  cases d with
  | none => rfl
  | some k =>
    cases d' with
    | none => rfl
    | some k' =>
      funext j
      simp only [putT]
      have : k ≠ k' := fun e => h k rfl (by rw [e])
      by_cases h1 : j = k <;> by_cases h2 : j = k' <;> simp_all

theorem looks_op {ops : Array Oper} {o : Oper} {k : Tmp} (h : k ∉ o.looksAt ops) : ∀ x ∈ o.op.operands, x ≠ .tmp k := by
  rintro x hx rfl
  apply h
  unfold Oper.looksAt
  exact List.mem_append.2 (.inl (List.mem_filterMap.2 ⟨.tmp k, by simpa using hx, rfl⟩))

theorem pWanted_putT {ops : Array Oper} {o : Oper} {t : Nat → PV} {d : Option Tmp} {v : PV} (h : ∀ k, d = some k → k ∉ o.looksAt ops) : pWanted ops (putT t d v) o = pWanted ops t o := by
  unfold pWanted
  cases hg : o.guard with
  | none => rfl
  | some g =>
    obtain ⟨j, want⟩ := g
    simp only
    cases hdst : (ops[j]?).bind (·.dst) with
    | none => rfl
    | some k =>
      simp only
      have : putT t d v k = t k := by
        cases d with
        | none => rfl
        | some k' =>
          have hne : k ≠ k' := by
            rintro rfl
            refine h k rfl ?_
            unfold Oper.looksAt
            refine List.mem_append.2 (.inr ?_)
            rw [hg]
            simp [hdst]
          simp [putT, hne]
      rw [this]

/-! ### References -/
inductive RefIn (D : Id → Prop) : PV → Prop where
  | any : RefIn D .any
  | v (x : Value) : RefIn D (.v x)
  | nilS : RefIn D .nilS
  | sl (es : List (List PV)) : RefIn D (.sl es)
  | own (id : Id) (e : TypeId) (off len : Nat) (h : D id) : RefIn D (.own id e off len)
  | ptr (id : Id) (e off : Nat) (h : D id) : RefIn D (.ptr id e off)
  | cptr (cs : List PV) (off : Nat) : RefIn D (.cptr cs off)
  | mp (id : Id) (h : D id) : RefIn D (.mp id)
  | agg (cs : List PV) (h : ∀ (j : Nat) (p : PV), cs[j]? = some p → RefIn D p) : RefIn D (.agg cs)
  | tup (cs : List PV) (h : ∀ (j : Nat) (p : PV), cs[j]? = some p → RefIn D p) : RefIn D (.tup cs)
  | iface (t : TypeId) (p : PV) (h : RefIn D p) : RefIn D (.iface t p)
  | fn (f : Fn) (a b : List PV) (h : ∀ (j : Nat) (p : PV), a[j]? = some p → RefIn D p) (h' : ∀ (j : Nat) (p : PV), b[j]? = some p → RefIn D p) : RefIn D (.fn f a b)

theorem VR.refIn {F : Froz} {ι : Loc} {p : PV} {x : Value} (h : VR F ι p x) : RefIn (fun id => ι id ≠ none) p := by
  induction h with
  | any => exact .any
  | v => exact .v _
  | nilS => exact .nilS
  | slNil => exact .sl _
  | slE => exact .sl _
  | sl => exact .sl _
  | ownNil _ _ _ hι => exact .own _ _ _ _ (by rw [hι]; simp)
  | ownE _ _ _ _ _ _ _ _ _ hι => exact .own _ _ _ _ (by rw [hι]; simp)
  | own _ _ _ _ _ _ _ _ _ hι => exact .own _ _ _ _ (by rw [hι]; simp)
  | ptr _ _ _ _ _ _ _ _ hι => exact .ptr _ _ _ (by rw [hι]; simp)
  | cptr => exact .cptr _ _
  | mp _ _ _ _ _ _ hι => exact .mp _ (by rw [hι]; simp)
  | agg _ _ _ _ _ ih => exact .agg _ ih
  | tup _ _ _ _ _ ih => exact .tup _ ih
  | iface _ _ _ _ _ ih => exact .iface _ _ ih
  | fn _ _ _ _ _ _ _ _ _ _ ih ih' => exact .fn _ _ _ ih ih'

def strip : Option Blk → Option Blk
  | some (.cells es _) => some (.cells es false)
  | x => x

theorem strip_cells {x y : Option Blk} (h : strip x = strip y) {es : List (List PV)} {w : Bool} (hx : x = some (.cells es w)) : ∃ w', y = some (.cells es w') := by
  subst hx
  cases y with
  | none => simp [strip] at h
  | some B => cases B with
    | cells es' w' => simp [strip] at h; subst h; exact ⟨w', rfl⟩
    | map _ _ => simp [strip] at h
theorem strip_map {x y : Option Blk} (h : strip x = strip y) {en : List (Value × PV × Nat)} {cl : Nat} (hx : x = some (.map en cl)) : y = some (.map en cl) := by
  subst hx
  cases y with
  | none => simp [strip] at h
  | some B => cases B with
    | cells es' w' => simp [strip] at h
    | map _ _ => simp [strip] at h; simp [h]
theorem strip_none {x y : Option Blk} (h : strip x = strip y) (hx : x = none) : y = none := by
  subst hx
  cases y with
  | none => rfl
  | some B => cases B <;> simp [strip] at h
theorem strip_mark (σ : Sto) (ids : List Id) (j : Id) : strip (mark σ ids j) = strip (σ j) := by
  unfold mark
  split
  · cases σ j with
    | none => rfl
    | some B => cases B <;> rfl
  · rfl

/-- What the store holds, the other one holds too. -/
def Le (σ σ' : Sto) : Prop := ∀ j, σ j ≠ none → strip (σ' j) = strip (σ j)

theorem Le.refl (σ : Sto) : Le σ σ := fun _ _ => rfl
theorem Le.trans {a b c : Sto} (h : Le a b) (k : Le b c) : Le a c := fun j hj => by
  have h1 := h j hj
  rw [k j (fun e => hj (strip_none h1 e)), h1]
theorem Le.upd {σ : Sto} {id : Id} (h : σ id = none) (B : Blk) : Le σ (upd σ id (some B)) := fun j hj => by
  rw [upd_ne]
  rintro rfl
  exact hj h
theorem Le.mark (σ : Sto) (ids : List Id) : Le σ (mark σ ids) := fun j _ => strip_mark σ ids j

theorem flatMap_congr' {α β : Type} {f g : α → List β} {l : List α} (h : ∀ a ∈ l, f a = g a) : l.flatMap f = l.flatMap g := by
  induction l with
  | nil => rfl
  | cons a r ih =>
    rw [List.flatMap_cons, List.flatMap_cons, h a (by simp), ih (fun a ha => h a (by simp [ha]))]

theorem mapO_mem {α β : Type} {f : α → Option β} : ∀ {l : List α} {bs : List β}, mapO f l = some bs → ∀ a ∈ l, ∃ b, f a = some b
  | [], _, _, a, ha => by simp at ha
  | x :: r, bs, h, a, ha => by
    unfold mapO at h
    split at h
    · rename_i b bs' h1 h2
      rcases List.mem_cons.1 ha with rfl | ha
      · exact ⟨b, h1⟩
      · exact mapO_mem h2 a ha
    · cases h

theorem mapO_congr {α β : Type} {f g : α → Option β} : ∀ {l : List α}, (∀ a ∈ l, f a = g a) → mapO f l = mapO g l
  | [], _ => rfl
  | a :: r, h => by
    unfold mapO
    rw [h a (by simp), mapO_congr (l := r) (fun a ha => h a (by simp [ha]))]

theorem frz_le {σ σ' : Sto} (hle : Le σ σ') : ∀ (n : Nat) {p p' : PV}, frz n σ p = some p' → frz n σ' p = some p' ∧ frzIds n σ' p = frzIds n σ p ∧ ∀ j ∈ frzIds n σ p, σ j ≠ none
  | 0, p, p', h => by simp [frz] at h
  | n + 1, p, p', h => by
    have hl : ∀ {cs cs' : List PV}, mapO (frz n σ) cs = some cs' → mapO (frz n σ') cs = some cs' ∧ cs.flatMap (frzIds n σ') = cs.flatMap (frzIds n σ) ∧ ∀ j ∈ cs.flatMap (frzIds n σ), σ j ≠ none := by
      intro cs cs' hm
      have hm' := mapO_mem hm
      refine ⟨?_, flatMap_congr' fun a ha => ?_, fun j hj => ?_⟩
      · rw [← hm]
        refine mapO_congr fun a ha => ?_
        obtain ⟨b, hb⟩ := hm' a ha
        rw [hb, (frz_le hle n hb).1]
      · obtain ⟨b, hb⟩ := hm' a ha
        exact (frz_le hle n hb).2.1
      · obtain ⟨a, ha, hj⟩ := List.mem_flatMap.1 hj
        obtain ⟨b, hb⟩ := hm' a ha
        exact (frz_le hle n hb).2.2 j hj
    cases p with
    | any => simp [frz] at h
    | ptr => simp [frz] at h
    | mp => simp [frz] at h
    | v x => exact ⟨by simpa [frz] using h, by simp [frzIds], fun j hj => by simp [frzIds] at hj⟩
    | nilS => exact ⟨by simpa [frz] using h, by simp [frzIds], fun j hj => by simp [frzIds] at hj⟩
    | sl es => exact ⟨by simpa [frz] using h, by simp [frzIds], fun j hj => by simp [frzIds] at hj⟩
    | cptr cs off => exact ⟨by simpa [frz] using h, by simp [frzIds], fun j hj => by simp [frzIds] at hj⟩
    | agg cs =>
      simp only [frz, Option.map_eq_some_iff] at h
      obtain ⟨cs', hm, rfl⟩ := h
      obtain ⟨h1, h2, h3⟩ := hl hm
      exact ⟨by simp [frz, h1], by simpa [frzIds] using h2, by simpa only [frzIds] using h3⟩
    | tup cs =>
      simp only [frz, Option.map_eq_some_iff] at h
      obtain ⟨cs', hm, rfl⟩ := h
      obtain ⟨h1, h2, h3⟩ := hl hm
      exact ⟨by simp [frz, h1], by simpa [frzIds] using h2, by simpa only [frzIds] using h3⟩
    | iface t q =>
      simp only [frz, Option.map_eq_some_iff] at h
      obtain ⟨q', hq, rfl⟩ := h
      obtain ⟨h1, h2, h3⟩ := frz_le hle n hq
      exact ⟨by simp [frz, h1], by simpa [frzIds] using h2, by simpa only [frzIds] using h3⟩
    | fn f a b =>
      simp only [frz] at h
      split at h
      · rename_i a' b' ha hb
        obtain ⟨h1, h2, h3⟩ := hl ha
        obtain ⟨k1, k2, k3⟩ := hl hb
        refine ⟨by simp only [frz, h1, k1]; exact h, by simp only [frzIds, h2, k2], fun j hj => ?_⟩
        simp only [frzIds] at hj
        rcases List.mem_append.1 hj with hj | hj
        · exact h3 j hj
        · exact k3 j hj
      · cases h
    | own id e off len =>
      simp only [frz] at h
      split at h
      · rename_i es w hs
        split at h
        · rename_i hle'
          simp only [Option.map_eq_some_iff] at h
          obtain ⟨es', hm, rfl⟩ := h
          have hne : σ id ≠ none := by rw [hs]; simp
          obtain ⟨w', hs'⟩ := strip_cells (hle id hne).symm hs
          have hm' := mapO_mem hm
          refine ⟨?_, ?_, fun j hj => ?_⟩
          · simp only [frz, hs', if_pos hle']
            have : mapO (fun cs => mapO (frz n σ') cs) ((es.drop off).take len) = some es' := by
              rw [← hm]
              refine mapO_congr fun cs hcs => ?_
              obtain ⟨b, hb⟩ := hm' cs hcs
              rw [hb, (hl hb).1]
            rw [this]; rfl
          · simp only [frzIds, hs, hs']
            congr 1
            refine flatMap_congr' fun cs hcs => ?_
            obtain ⟨b, hb⟩ := hm' cs hcs
            exact (hl hb).2.1
          · simp only [frzIds, hs] at hj
            rcases List.mem_cons.1 hj with rfl | hj
            · exact hne
            · obtain ⟨cs, hcs, hj⟩ := List.mem_flatMap.1 hj
              obtain ⟨b, hb⟩ := hm' cs hcs
              exact (hl hb).2.2 j hj
        · cases h
      · cases h

/-- The same from the richer store to the poorer one, where only what the poorer one knows is met. -/
theorem frz_back {D : Id → Prop} {σ σ' : Sto} (hD : ∀ j, D j → strip (σ j) = strip (σ' j)) (hc : ∀ j es w, D j → σ j = some (.cells es w) → ∀ (i k : Nat) (cs : List PV) (p : PV), es[i]? = some cs → cs[k]? = some p → RefIn D p) :
    ∀ (n : Nat) {p : PV}, RefIn D p → frz n σ' p = frz n σ p ∧ frzIds n σ' p = frzIds n σ p
  | 0, p, _ => ⟨rfl, rfl⟩
  | n + 1, p, hr => by
    have hl : ∀ {cs : List PV}, (∀ (j : Nat) (p : PV), cs[j]? = some p → RefIn D p) → mapO (frz n σ') cs = mapO (frz n σ) cs ∧ cs.flatMap (frzIds n σ') = cs.flatMap (frzIds n σ) := by
      intro cs hcs
      refine ⟨mapO_congr fun a ha => ?_, flatMap_congr' fun a ha => ?_⟩
      · obtain ⟨j, hj⟩ := List.getElem?_of_mem ha
        exact (frz_back hD hc n (hcs j a hj)).1
      · obtain ⟨j, hj⟩ := List.getElem?_of_mem ha
        exact (frz_back hD hc n (hcs j a hj)).2
    cases hr with
    | any => exact ⟨rfl, rfl⟩
    | v => exact ⟨rfl, rfl⟩
    | nilS => exact ⟨rfl, rfl⟩
    | sl => exact ⟨rfl, rfl⟩
    | ptr => exact ⟨rfl, rfl⟩
    | cptr => exact ⟨rfl, rfl⟩
    | mp => exact ⟨rfl, rfl⟩
    | agg cs h =>
      obtain ⟨h1, h2⟩ := hl h
      exact ⟨by simp only [frz, h1], by simp only [frzIds, h2]⟩
    | tup cs h =>
      obtain ⟨h1, h2⟩ := hl h
      exact ⟨by simp only [frz, h1], by simp only [frzIds, h2]⟩
    | iface t q h =>
      obtain ⟨h1, h2⟩ := frz_back hD hc n h
      exact ⟨by simp only [frz, h1], by simp only [frzIds, h2]⟩
    | fn f a b h h' =>
      obtain ⟨h1, h2⟩ := hl h
      obtain ⟨k1, k2⟩ := hl h'
      exact ⟨by simp only [frz, h1, k1], by simp only [frzIds, h2, k2]⟩
    | own id e off len h =>
      have hst := hD id h
      cases hs : σ id with
      | none =>
        have hs' := strip_none hst hs
        exact ⟨by simp only [frz, hs, hs'], by simp only [frzIds, hs, hs']⟩
      | some B => cases B with
        | map en cl =>
          have hs' := strip_map hst hs
          exact ⟨by simp only [frz, hs, hs'], by simp only [frzIds, hs, hs']⟩
        | cells es w =>
          obtain ⟨w', hs'⟩ := strip_cells hst hs
          have hsub : ∀ cs ∈ (es.drop off).take len, ∀ (j : Nat) (p : PV), cs[j]? = some p → RefIn D p := by
            intro cs hcs j p hj
            have hm := List.mem_of_mem_drop (List.mem_of_mem_take hcs)
            obtain ⟨i, hi⟩ := List.getElem?_of_mem hm
            exact hc id es w h hs i j cs p hi hj
          have e1 : mapO (fun cs => mapO (frz n σ') cs) ((es.drop off).take len) = mapO (fun cs => mapO (frz n σ) cs) ((es.drop off).take len) := mapO_congr fun cs hcs => (hl (hsub cs hcs)).1
          have e2 : ((es.drop off).take len).flatMap (fun cs => cs.flatMap (frzIds n σ')) = ((es.drop off).take len).flatMap (fun cs => cs.flatMap (frzIds n σ)) := flatMap_congr' fun cs hcs => (hl (hsub cs hcs)).2
          exact ⟨by simp only [frz, hs, hs', e1], by simp only [frzIds, hs, hs', e2]⟩

end Go.PM
end

section
set_option linter.unusedSimpArgs false
set_option linter.unusedVariables false
set_option linter.constructorNameAsVariable false
/- Whatever order a region draws, it comes to what its text's order comes to. -/
namespace Go.PM
open Go Go.RowKit

/-! ### What an operation of a kind that has no choice does -/
inductive DAct where
  | no
  | new (B : Blk)
  | mark (ids : List Id)
def DAct.app (id : Id) (σ : Sto) : DAct → Sto
  | .no => σ
  | .new B => upd σ id (some B)
  | .mark ids => PM.mark σ ids

def Kd.det : Kd → Bool
  | .w | .s => false
  | _ => true

/-- The effect, its guard aside. -/
def DEff1 (P : Program) (M : Call → CK) (id : Id) (o : Oper) (t : Nat → PV) (σ : Sto) (v : PV) (A : DAct) : Prop :=
  match kindOf M o.op with
  | .p => pOp P (ev t) o = some v ∧ A = .no
  | .r => pMem P id σ (ev t) o = some (v, .no) ∧ A = .no
  | .a => ∃ B, pMem P id σ (ev t) o = some (v, .new B) ∧ A = .new B
  | .f => match o.op with
    | .call c => ∃ g args args', pCallee P (ev t) c = some (g, args) ∧ FuncOK P g = true ∧ mapO (frz depthF σ) args = some args' ∧ PC P g args' v ∧ A = .mark (args.flatMap (frzIds depthF σ))
    | _ => False
  | .q => match o.op with
    | .call c => ∃ g args, pCallee P (ev t) c = some (g, args) ∧ FuncOK P g = true ∧ PCS P id g args σ (fun r' σ' => r' = v ∧ σ' = σ) ∧ A = .no
    | _ => False
  | _ => False

def DEff (P : Program) (M : Call → CK) (ops : Array Oper) (id : Id) (o : Oper) (t : Nat → PV) (σ : Sto) (v : PV) (A : DAct) : Prop :=
  match pWanted ops t o with
  | some true => DEff1 P M id o t σ v A
  | some false => v = .tup [] ∧ A = .no
  | none => False

theorem act_r {P : Program} {M : Call → CK} {id : Id} {σ : Sto} {e : Operand → PV} {o : Oper} {v : PV} {act : SAct} (hk : kindOf M o.op = .r) (h : pMem P id σ e o = some (v, act)) : act = .no := by
  unfold kindOf at hk
  unfold pMem at h
  split at h <;> rename_i ho <;> (try rw [ho] at hk) <;> simp at hk
  · unfold pLoad at h
    (repeat' split at h) <;> simp at h <;> first | exact h.2.symm | exact h.2.2.symm | (obtain ⟨_, _, _, h⟩ := h; exact h.symm)
  · simp only [Option.map_eq_some_iff, Prod.mk.injEq] at h
    obtain ⟨_, _, _, h⟩ := h
    exact h.symm
  · split at h <;> first | (simp at hk; done) | skip
    · simp only [Option.map_eq_some_iff, Prod.mk.injEq] at h
      obtain ⟨_, _, _, h⟩ := h
      exact h.symm
    · simp at h
  · simp at h

theorem act_a {P : Program} {M : Call → CK} {id : Id} {σ : Sto} {e : Operand → PV} {o : Oper} {v : PV} {act : SAct} (hk : kindOf M o.op = .a) (h : pMem P id σ e o = some (v, act)) : ∃ B, act = .new B := by
  unfold kindOf at hk
  unfold pMem at h
  split at h <;> rename_i ho <;> (try rw [ho] at hk) <;> (try simp at hk)
  · unfold pAlloc at h
    (repeat' split at h) <;> simp at h
    exact ⟨_, h.2.symm⟩
  · unfold pBox at h
    split at h <;> simp at h
    exact ⟨_, h.2.symm⟩
  · unfold pBuildSlice at h
    (repeat' split at h) <;> simp at h
    obtain ⟨_, _, _, h⟩ := h
    exact ⟨_, h.symm⟩
  · unfold pMakeMap at h
    split at h <;> simp at h
    exact ⟨_, h.2.symm⟩
  · unfold pMakeSlice at h
    (repeat' split at h) <;> simp at h
    exact ⟨_, h.2.symm⟩
  · rename_i b args aT
    exfalso
    cases b <;> simp at hk
  · simp at h

theorem step_deff {P : Program} {M : Call → CK} {ops : Array Oper} {id : Id} {o : Oper} {s : PSt} {K : PSt → Prop} (hk : (kindOf M o.op).det = true) :
    PStepG P M ops id o s K ↔ ∃ v A, DEff P M ops id o s.t s.σ v A ∧ K { s with t := putT s.t o.dst v, σ := A.app id s.σ } := by
  unfold PStepG DEff
  cases hw : pWanted ops s.t o with
  | none => simp
  | some b => cases b with
    | false =>
      simp only
      constructor
      · intro h
        exact ⟨_, .no, ⟨rfl, rfl⟩, h⟩
      · rintro ⟨v, A, ⟨rfl, rfl⟩, h⟩
        exact h
    | true =>
      simp only
      unfold PStep DEff1
      cases hkk : kindOf M o.op with
      | w => rw [hkk] at hk; simp [Kd.det] at hk
      | s => rw [hkk] at hk; simp [Kd.det] at hk
      | p =>
        simp only
        constructor
        · rintro ⟨v, hv, h⟩
          exact ⟨v, .no, ⟨hv, rfl⟩, h⟩
        · rintro ⟨v, A, ⟨hv, rfl⟩, h⟩
          exact ⟨v, hv, h⟩
      | r =>
        simp only
        constructor
        · rintro ⟨v, act, hv, h⟩
          have := act_r hkk hv
          subst this
          exact ⟨v, .no, ⟨hv, rfl⟩, h⟩
        · rintro ⟨v, A, ⟨hv, rfl⟩, h⟩
          exact ⟨v, .no, hv, h⟩
      | a =>
        simp only
        constructor
        · rintro ⟨v, act, hv, h⟩
          obtain ⟨B, rfl⟩ := act_a hkk hv
          exact ⟨v, .new B, ⟨B, hv, rfl⟩, h⟩
        · rintro ⟨v, A, ⟨B, hv, rfl⟩, h⟩
          exact ⟨v, .new B, hv, h⟩
      | q =>
        simp only
        cases ho : o.op with
        | call c =>
          simp only
          constructor
          · rintro ⟨g, args, r, h1, h2, h3, h4⟩
            exact ⟨r, _, ⟨g, args, h1, h2, h3, rfl⟩, h4⟩
          · rintro ⟨v, A, ⟨g, args, h1, h2, h3, rfl⟩, h4⟩
            exact ⟨g, args, v, h1, h2, h3, h4⟩
        | _ => simp
      | f =>
        simp only
        cases ho : o.op with
        | call c =>
          simp only
          constructor
          · rintro ⟨g, args, args', r, h1, h2, h3, h4, h5⟩
            exact ⟨r, _, ⟨g, args, args', h1, h2, h3, h4, rfl⟩, h5⟩
          · rintro ⟨v, A, ⟨g, args, args', h1, h2, h3, h4, rfl⟩, h5⟩
            exact ⟨g, args, args', v, h1, h2, h3, h4, h5⟩
        | _ => simp

/-! ### Commuting -/
def commK : Kd → Kd → Bool
  | .p, _ | _, .p => true
  | .w, _ | _, .w | .s, _ | _, .s => false
  | .q, .q | .q, .r | .r, .q => true
  | .q, _ | _, .q => false
  | _, _ => true

def pairOK (M : Call → CK) (ops : Array Oper) (x y : Oper) : Bool := x.apart ops y && commK (kindOf M x.op) (kindOf M y.op)

/-- Another state of the slots that the operation doesn't tell from this one. -/
theorem deff_t {P : Program} {M : Call → CK} {ops : Array Oper} {id : Id} {o : Oper} {t : Nat → PV} {σ : Sto} {v : PV} {A : DAct} {d : Option Tmp} {u : PV} (hd : ∀ k, d = some k → k ∉ o.looksAt ops) : DEff P M ops id o (putT t d u) σ v A ↔ DEff P M ops id o t σ v A := by
  have he : ∀ x ∈ o.op.operands, ev (putT t d u) x = ev t x := fun x hx => ev_putT fun k hk => looks_op (hd k hk) x hx
  unfold DEff
  rw [pWanted_putT hd]
  have h1 : DEff1 P M id o (putT t d u) σ v A ↔ DEff1 P M id o t σ v A := by
    unfold DEff1
    cases hk : kindOf M o.op with
    | p => simp only; rw [pOp_congr he]
    | r => simp only; rw [pMem_congr he]
    | a => simp only; rw [pMem_congr he]
    | w => simp
    | s => simp
    | f =>
      simp only
      cases ho : o.op with
      | call c =>
        simp only
        rw [pCallee_congr (e := ev (putT t d u)) (e' := ev t) (fun x hx => he x (by rw [ho]; exact hx))]
      | _ => simp
    | q =>
      simp only
      cases ho : o.op with
      | call c =>
        simp only
        rw [pCallee_congr (e := ev (putT t d u)) (e' := ev t) (fun x hx => he x (by rw [ho]; exact hx))]
      | _ => simp
  cases pWanted ops t o with
  | none => simp
  | some b => cases b <;> simp [h1]

theorem pStep_t {P : Program} {M : Call → CK} {ops : Array Oper} {id : Id} {o : Oper} {s : PSt} {K : PSt → Prop} {d : Option Tmp} {u : PV} (hd : ∀ k, d = some k → k ∉ o.looksAt ops) (hdd : ∀ k, d = some k → o.dst ≠ some k) :
    PStepG P M ops id o { s with t := putT s.t d u } K ↔ PStepG P M ops id o s (fun s' => K { s' with t := putT s'.t d u }) := by
  have he : ∀ x ∈ o.op.operands, ev (putT s.t d u) x = ev s.t x := fun x hx => ev_putT fun k hk => looks_op (hd k hk) x hx
  unfold PStepG
  rw [show ({ s with t := putT s.t d u } : PSt).t = putT s.t d u from rfl, pWanted_putT hd]
  cases pWanted ops s.t o with
  | none => simp
  | some b => cases b with
    | false => simp only; rw [putT_comm hdd]
    | true =>
      simp only
      unfold PStep
      cases hk : kindOf M o.op with
      | p => simp only; rw [pOp_congr he]; simp only [putT_comm hdd]
      | r => simp only; rw [pMem_congr he]; simp only [putT_comm hdd]
      | a => simp only; rw [pMem_congr he]; simp only [putT_comm hdd]
      | w => simp only; rw [pMem_congr he]; simp only [putT_comm hdd]
      | f =>
        simp only
        cases ho : o.op with
        | call c =>
          simp only
          rw [pCallee_congr (e := ev (putT s.t d u)) (e' := ev s.t) (fun x hx => he x (by rw [ho]; exact hx))]
          simp only [putT_comm hdd]
        | _ => simp
      | s =>
        simp only
        cases ho : o.op with
        | call c =>
          simp only
          rw [pCallee_congr (e := ev (putT s.t d u)) (e' := ev s.t) (fun x hx => he x (by rw [ho]; exact hx))]
          simp only [putT_comm hdd]
        | _ => simp
      | q =>
        simp only
        cases ho : o.op with
        | call c =>
          simp only
          rw [pCallee_congr (e := ev (putT s.t d u)) (e' := ev s.t) (fun x hx => he x (by rw [ho]; exact hx))]
          simp only [putT_comm hdd]
        | _ => simp

theorem PCS.mono {P : Program} {id : Id} {f : FuncId} {args : List PV} {σ : Sto} {Q Q' : PV → Sto → Prop} (h : PCS P id f args σ Q) (hq : ∀ r σ', Q r σ' → Q' r σ') : PCS P id f args σ Q' :=
  ⟨let ⟨r, σ', h⟩ := h.1; ⟨r, σ', hq _ _ h⟩, fun base F ι w vals hm hf hv => (h.2 base F ι w vals hm hf hv).mono fun _ _ ⟨v, F', ι', r, σ', he, hQ, rest⟩ => ⟨v, F', ι', r, σ', he, hq _ _ hQ, rest⟩⟩

theorem PStepG.mono {P : Program} {M : Call → CK} {ops : Array Oper} {id : Id} {o : Oper} {s : PSt} {K K' : PSt → Prop} (h : PStepG P M ops id o s K) (hK : ∀ s', s'.c = s.c → (∃ u, s'.t = putT s.t o.dst u) → K s' → K' s') : PStepG P M ops id o s K' := by
  unfold PStepG at *
  split at h
  · unfold PStep at *
    split at h
    · obtain ⟨v, hv, h⟩ := h; exact ⟨v, hv, hK _ rfl ⟨_, rfl⟩ h⟩
    · split at h
      · obtain ⟨g, args, args', r, h1, h2, h3, h4, h5⟩ := h; exact ⟨g, args, args', r, h1, h2, h3, h4, hK _ rfl ⟨_, rfl⟩ h5⟩
      · exact h
    · split at h
      · obtain ⟨g, args, r, h1, h2, h3, h4⟩ := h; exact ⟨g, args, r, h1, h2, h3, hK _ rfl ⟨_, rfl⟩ h4⟩
      · exact h
    · split at h
      · obtain ⟨g, args, h1, h2, h3⟩ := h; exact ⟨g, args, h1, h2, h3.mono fun r σ' => hK _ rfl ⟨_, rfl⟩⟩
      · exact h
    · obtain ⟨v, act, hv, h⟩ := h; exact ⟨v, act, hv, hK _ rfl ⟨_, rfl⟩ h⟩
  · exact hK _ rfl ⟨_, rfl⟩ h
  · exact h

/-- Something comes of it. -/
theorem PStepG.some_ {P : Program} {M : Call → CK} {ops : Array Oper} {id : Id} {o : Oper} {s : PSt} {K : PSt → Prop} (h : PStepG P M ops id o s K) : ∃ v σ', K { s with t := putT s.t o.dst v, σ := σ' } := by
  unfold PStepG at *
  split at h
  · unfold PStep at *
    split at h
    · obtain ⟨v, hv, h⟩ := h; exact ⟨v, s.σ, h⟩
    · split at h
      · obtain ⟨g, args, args', r, h1, h2, h3, h4, h5⟩ := h; exact ⟨_, _, h5⟩
      · exact h.elim
    · split at h
      · obtain ⟨g, args, r, h1, h2, h3, h4⟩ := h; exact ⟨_, _, h4⟩
      · exact h.elim
    · split at h
      · obtain ⟨g, args, h1, h2, h3⟩ := h
        obtain ⟨r, σ', h⟩ := h3.1
        exact ⟨_, _, h⟩
      · exact h.elim
    · obtain ⟨v, act, hv, h⟩ := h; exact ⟨_, _, h⟩
  · exact ⟨_, s.σ, h⟩
  · exact h.elim

theorem deff_p {P : Program} {M : Call → CK} {ops : Array Oper} {id : Id} {o : Oper} {t : Nat → PV} {σ : Sto} {v : PV} {A : DAct} (hk : kindOf M o.op = .p) (h : DEff P M ops id o t σ v A) : A = .no ∧ ∀ σ', DEff P M ops id o t σ' v .no := by
  unfold DEff at *
  cases hw : pWanted ops t o with
  | none => rw [hw] at h; exact h.elim
  | some b => cases b with
    | false => rw [hw] at h; exact ⟨h.2, fun σ' => ⟨h.1, rfl⟩⟩
    | true =>
      rw [hw] at h
      unfold DEff1 at *
      simp only [hk] at *
      exact ⟨h.2, fun σ' => ⟨h.1, trivial⟩⟩

theorem deff_p_det {P : Program} {M : Call → CK} {ops : Array Oper} {id : Id} {o : Oper} {t : Nat → PV} {σ : Sto} {v v' : PV} {A A' : DAct} (hk : kindOf M o.op = .p) (h : DEff P M ops id o t σ v A) (h' : DEff P M ops id o t σ v' A') : v = v' := by
  unfold DEff at *
  cases hw : pWanted ops t o with
  | none => rw [hw] at h; exact h.elim
  | some b => cases b with
    | false => rw [hw] at h h'; rw [h.1, h'.1]
    | true =>
      rw [hw] at h h'
      unfold DEff1 at *
      simp only [hk] at *
      have := h.1.symm.trans h'.1
      injection this

/-- A mere reckoning changes places with whatever it doesn't hang on. -/
theorem swap_p {P : Program} {M : Call → CK} {ops : Array Oper} {idk idi : Id} {ok oi : Oper} (hap : ok.apart ops oi = true) (hk : kindOf M oi.op = .p) {s : PSt} {K : PSt → Prop}
    (h : PStepG P M ops idk ok s (fun s1 => PStepG P M ops idi oi s1 K)) : PStepG P M ops idi oi s (fun s1 => PStepG P M ops idk ok s1 K) := by
  obtain ⟨a1, a2, a3⟩ := Oper.apart_spec hap
  have hdet : (kindOf M oi.op).det = true := by rw [hk]; rfl
  obtain ⟨v0, σ0, h0⟩ := h.some_
  obtain ⟨v, A, hv, _⟩ := (step_deff hdet).1 h0
  obtain ⟨rfl, hall⟩ := deff_p hk hv
  have hv' := hall s.σ
  rw [deff_t a1] at hv'
  refine (step_deff hdet).2 ⟨v, .no, hv', ?_⟩
  show PStepG P M ops idk ok { s with t := putT s.t oi.dst v } K
  rw [pStep_t a3 (fun k hk' => by intro he; exact a2 k he hk')]
  refine h.mono fun s1 _ ⟨u, hu⟩ h1 => ?_
  obtain ⟨v', A', hv1, hK⟩ := (step_deff hdet).1 h1
  obtain ⟨rfl, hall1⟩ := deff_p hk hv1
  have hv2 := hall1 s.σ
  rw [hu, deff_t a1] at hv2
  rw [deff_p_det hk hv' hv2]
  exact hK

end Go.PM
end

section
set_option linter.unusedSimpArgs false
set_option linter.unusedVariables false
set_option linter.constructorNameAsVariable false
/- An operation that may come up is carried out ahead of those that stand before it in the text. -/
namespace Go.PM
open Go Go.RowKit

/-- What is a mere reckoning lets another operation pass. -/
theorem swap_kp {P : Program} {M : Call → CK} {ops : Array Oper} {idk idi : Id} {ok oi : Oper} (hap : ok.apart ops oi = true) (hk : kindOf M ok.op = .p) {s : PSt} {K : PSt → Prop}
    (h : PStepG P M ops idk ok s (fun s1 => PStepG P M ops idi oi s1 K)) : PStepG P M ops idi oi s (fun s1 => PStepG P M ops idk ok s1 K) := by
  obtain ⟨a1, a2, a3⟩ := Oper.apart_spec hap
  have hdet : (kindOf M ok.op).det = true := by rw [hk]; rfl
  obtain ⟨v, A, hv, h1⟩ := (step_deff hdet).1 h
  obtain ⟨rfl, hall⟩ := deff_p hk hv
  have h2 : PStepG P M ops idi oi { s with t := putT s.t ok.dst v } K := h1
  rw [pStep_t a1 a2] at h2
  refine h2.mono fun s1 _ ⟨u, hu⟩ h3 => (step_deff hdet).2 ⟨v, .no, ?_, h3⟩
  rw [hu, deff_t a3]
  exact hall _

theorem pMem_a {P : Program} {M : Call → CK} {id : Id} {σ σ' : Sto} {e : Operand → PV} {o : Oper} (hk : kindOf M o.op = .a) : pMem P id σ e o = pMem P id σ' e o := by
  unfold kindOf at hk
  unfold pMem
  split <;> rename_i ho <;> (try rw [ho] at hk) <;> first | rfl | (simp at hk; done) | skip
  rename_i b args aT
  exfalso
  cases b <;> simp at hk

theorem pLoad_of {P : Program} {σ σ' : Sto} {T : TypeId} {a : PV} (h : ∀ i e off, a = .ptr i e off → strip (σ i) = strip (σ' i)) : pLoad P σ' T a = pLoad P σ T a := by
  unfold pLoad
  cases tyI P T with
  | none => rfl
  | some x =>
    obtain ⟨sz, ag⟩ := x
    cases a <;> try rfl
    rename_i i e off
    have hs := h i e off rfl
    simp only
    cases hσ : σ i with
    | none => rw [strip_none hs hσ]
    | some B => cases B with
      | cells es w =>
        obtain ⟨w', hw'⟩ := strip_cells hs hσ
        rw [hw']
      | map en cl => rw [strip_map hs hσ]

theorem pLookup_of {P : Program} {σ σ' : Sto} {T : TypeId} {m k : PV} {ok : Bool} (h : ∀ i, m = .mp i → strip (σ i) = strip (σ' i)) : pLookup P σ' T m k ok = pLookup P σ T m k ok := by
  unfold pLookup
  cases mpI P T with
  | none => rfl
  | some x =>
    obtain ⟨kt, e, d⟩ := x
    cases toV k with
    | none => rfl
    | some kv =>
      simp only
      cases zvI P e with
      | none => rfl
      | some z =>
        cases m with
        | mp i =>
          have hs := h i rfl
          simp only
          cases hσ : σ i with
          | none => rw [strip_none hs hσ]
          | some B => cases B with
            | cells es w =>
              obtain ⟨w', hw'⟩ := strip_cells hs hσ
              rw [hw']
            | map en cl => rw [strip_map hs hσ]
        | v x => cases x <;> first | rfl | (rename_i r; cases r <;> rfl)
        | _ => rfl

theorem pLen_of {P : Program} {σ σ' : Sto} {T : TypeId} {m : PV} (h : ∀ i, m = .mp i → strip (σ i) = strip (σ' i)) : pLen P σ' T m = pLen P σ T m := by
  unfold pLen
  cases P.underlying T with
  | none => rfl
  | some d =>
    cases m with
    | mp i =>
      have hs := h i rfl
      cases d <;> try rfl
      simp only
      cases hσ : σ i with
      | none => rw [strip_none hs hσ]
      | some B => cases B with
        | cells es w =>
          obtain ⟨w', hw'⟩ := strip_cells hs hσ
          rw [hw']
        | map en cl => rw [strip_map hs hσ]
    | v x => cases d <;> first | rfl | (cases x <;> rfl)
    | _ => cases d <;> rfl

/-- A reading operation over two stores. -/
theorem pMem_r {P : Program} {M : Call → CK} {id : Id} {σ σ' : Sto} {e : Operand → PV} {o : Oper} (hk : kindOf M o.op = .r) (h : ∀ x ∈ o.op.operands, (∀ i k off, e x = .ptr i k off → strip (σ i) = strip (σ' i)) ∧ ∀ i, e x = .mp i → strip (σ i) = strip (σ' i)) :
    pMem P id σ' e o = pMem P id σ e o := by
  unfold kindOf at hk
  unfold pMem
  split
  all_goals (rename_i ho; try rw [ho] at hk)
  all_goals first | rfl | (simp at hk; done) | skip
  · rw [ho] at h
    exact pLoad_of (h _ (by simp [Op.operands])).1
  · rw [ho] at h
    rw [pLookup_of (h _ (by simp [Op.operands])).2]
  · rename_i b args aT
    cases b <;> first | (simp at hk; done) | skip
    cases hl : args.toList with
    | nil => rfl
    | cons x r => cases r with
      | cons y r => rfl
      | nil => cases hT : aT.toList with
        | nil => rfl
        | cons T q => cases q with
          | cons _ _ => rfl
          | nil =>
            simp only
            rw [ho] at h
            have hx : x ∈ (Op.call { callee := .builtin .len, args := args, argTypes := aT }).operands := by
              have : x ∈ args.toList := by rw [hl]; simp
              simp only [Op.operands, Call.operands]
              simpa using this
            rw [pLen_of (h x hx).2]

theorem mapO_frz_le {σ σ' : Sto} (hle : Le σ σ') {n : Nat} {args args' : List PV} (h : mapO (frz n σ) args = some args') : mapO (frz n σ') args = some args' ∧ args.flatMap (frzIds n σ') = args.flatMap (frzIds n σ) ∧ ∀ j ∈ args.flatMap (frzIds n σ), σ j ≠ none := by
  have hm' := mapO_mem h
  refine ⟨?_, flatMap_congr' fun a ha => ?_, fun j hj => ?_⟩
  · rw [← h]
    refine mapO_congr fun a ha => ?_
    obtain ⟨b, hb⟩ := hm' a ha
    rw [hb, (frz_le hle n hb).1]
  · obtain ⟨b, hb⟩ := hm' a ha
    exact (frz_le hle n hb).2.1
  · obtain ⟨a, ha, hj⟩ := List.mem_flatMap.1 hj
    obtain ⟨b, hb⟩ := hm' a ha
    exact (frz_le hle n hb).2.2 j hj

/-- Over a richer store. -/
theorem pLoad_le {P : Program} {σ σ' : Sto} (hle : Le σ σ') {T : TypeId} {a : PV} {x : PV × SAct} (h : pLoad P σ T a = some x) : pLoad P σ' T a = some x := by
  unfold pLoad at *
  cases ht : tyI P T with
  | none => rw [ht] at h; cases h
  | some y =>
    obtain ⟨sz, ag⟩ := y
    rw [ht] at h
    cases a <;> try exact h
    rename_i i e off
    simp only at h ⊢
    cases hσ : σ i with
    | none => rw [hσ] at h; cases h
    | some B => cases B with
      | cells es w =>
        obtain ⟨w', hw'⟩ := strip_cells (hle i (by rw [hσ]; simp)).symm hσ
        rw [hσ] at h
        rw [hw']
        exact h
      | map en cl => rw [hσ] at h; cases h

theorem pLookup_le {P : Program} {σ σ' : Sto} (hle : Le σ σ') {T : TypeId} {m k : PV} {ok : Bool} {x : PV} (h : pLookup P σ T m k ok = some x) : pLookup P σ' T m k ok = some x := by
  unfold pLookup at *
  cases hm : mpI P T with
  | none => rw [hm] at h; cases h
  | some y =>
    obtain ⟨kt, e, d⟩ := y
    rw [hm] at h
    cases hk : toV k with
    | none => rw [hk] at h; cases h
    | some kv =>
      rw [hk] at h
      simp only at h ⊢
      cases hz : zvI P e with
      | none => rw [hz] at h; cases h
      | some z =>
        rw [hz] at h
        cases m with
        | mp i =>
          simp only at h ⊢
          cases hσ : σ i with
          | none => rw [hσ] at h; cases h
          | some B => cases B with
            | cells es w => rw [hσ] at h; cases h
            | map en cl =>
              rw [strip_map (hle i (by rw [hσ]; simp)).symm hσ]
              rw [hσ] at h
              exact h
        | v x => cases x <;> first | exact h | (rename_i r; cases r <;> exact h)
        | _ => exact h

theorem pLen_le {P : Program} {σ σ' : Sto} (hle : Le σ σ') {T : TypeId} {m : PV} {x : PV} (h : pLen P σ T m = some x) : pLen P σ' T m = some x := by
  unfold pLen at *
  cases hu : P.underlying T with
  | none => rw [hu] at h; cases h
  | some d =>
    rw [hu] at h
    cases m with
    | mp i =>
      cases d <;> try exact h
      simp only at h ⊢
      cases hσ : σ i with
      | none => rw [hσ] at h; cases h
      | some B => cases B with
        | cells es w => rw [hσ] at h; cases h
        | map en cl =>
          rw [strip_map (hle i (by rw [hσ]; simp)).symm hσ]
          rw [hσ] at h
          exact h
    | v x => cases d <;> first | exact h | (cases x <;> exact h)
    | _ => cases d <;> exact h

theorem pMem_le {P : Program} {M : Call → CK} {id : Id} {σ σ' : Sto} (hle : Le σ σ') {e : Operand → PV} {o : Oper} (hk : kindOf M o.op = .r) {x : PV × SAct} (h : pMem P id σ e o = some x) : pMem P id σ' e o = some x := by
  unfold kindOf at hk
  unfold pMem at h
  split at h
  all_goals (rename_i ho; try rw [ho] at hk)
  all_goals first | (simp at hk; done) | skip
  · unfold pMem
    simp only [ho]
    exact pLoad_le hle h
  · unfold pMem
    simp only [ho]
    simp only [Option.map_eq_some_iff] at h ⊢
    obtain ⟨v, hv, rfl⟩ := h
    exact ⟨v, pLookup_le hle hv, rfl⟩
  · rename_i b args aT
    cases b <;> first | (simp at hk; done) | skip
    unfold pMem
    simp only [ho]
    cases hl : args.toList with
    | nil => rw [hl] at h; cases h
    | cons x' r => cases r with
      | cons y r => rw [hl] at h; cases h
      | nil => cases hT : aT.toList with
        | nil => rw [hl, hT] at h; cases h
        | cons T q => cases q with
          | cons _ _ => rw [hl, hT] at h; cases h
          | nil =>
            rw [hl, hT] at h
            simp only [Option.map_eq_some_iff] at h ⊢
            obtain ⟨v, hv, rfl⟩ := h
            exact ⟨v, pLen_le hle hv, rfl⟩
  · cases h

theorem deff_le {P : Program} {M : Call → CK} {ops : Array Oper} {id : Id} {o : Oper} {t : Nat → PV} {σ σ' : Sto} {v : PV} {A : DAct} (hle : Le σ σ') (hq : kindOf M o.op ≠ .q) (h : DEff P M ops id o t σ v A) : DEff P M ops id o t σ' v A := by
  unfold DEff at *
  split at h
  · unfold DEff1 at *
    split at h
    · exact h
    · rename_i hk
      exact ⟨pMem_le hle hk h.1, h.2⟩
    · rename_i hk
      obtain ⟨B, hB, hA⟩ := h
      exact ⟨B, by rw [pMem_a (σ' := σ) hk]; exact hB, hA⟩
    · rename_i hk
      split at h
      · obtain ⟨g, args, args', h1, h2, h3, h4, h5⟩ := h
        obtain ⟨k1, k2, _⟩ := mapO_frz_le hle h3
        exact ⟨g, args, args', h1, h2, k1, h4, by rw [k2]; exact h5⟩
      · exact h
    · rename_i hk; exact absurd hk hq
    · exact h
  · exact h
  · exact h

/-- From the richer store back to the poorer one, where only what the poorer one knows is met. -/
theorem deff_back {P : Program} {M : Call → CK} {ops : Array Oper} {id : Id} {o : Oper} {t : Nat → PV} {D : Id → Prop} {σ σ' : Sto} {v : PV} {A : DAct} (hD : ∀ j, D j → strip (σ j) = strip (σ' j))
    (hc : ∀ j es w, D j → σ j = some (.cells es w) → ∀ (i k : Nat) (cs : List PV) (p : PV), es[i]? = some cs → cs[k]? = some p → RefIn D p) (hop : ∀ x, RefIn D (ev t x)) (hcal : ∀ c g args, pCallee P (ev t) c = some (g, args) → ∀ p ∈ args, RefIn D p)
    (hq : kindOf M o.op ≠ .q) (h : DEff P M ops id o t σ' v A) : DEff P M ops id o t σ v A := by
  unfold DEff at *
  split at h
  · unfold DEff1 at *
    split at h
    · exact h
    · rename_i hk
      refine ⟨?_, h.2⟩
      rw [← pMem_r (σ := σ) (σ' := σ') hk]
      · exact h.1
      · intro x _
        have hx := hop x
        refine ⟨fun i k off he => ?_, fun i he => ?_⟩
        · rw [he] at hx; cases hx with | ptr _ _ _ hh => exact hD i hh
        · rw [he] at hx; cases hx with | mp _ hh => exact hD i hh
    · rename_i hk
      obtain ⟨B, hB, hA⟩ := h
      exact ⟨B, by rw [pMem_a (σ' := σ') hk]; exact hB, hA⟩
    · rename_i hk
      split at h
      · obtain ⟨g, args, args', h1, h2, h3, h4, h5⟩ := h
        have hr := hcal _ _ _ h1
        have e1 : mapO (frz depthF σ') args = mapO (frz depthF σ) args := mapO_congr fun a ha => (frz_back hD hc depthF (hr a ha)).1
        have e2 : args.flatMap (frzIds depthF σ') = args.flatMap (frzIds depthF σ) := flatMap_congr' fun a ha => (frz_back hD hc depthF (hr a ha)).2
        exact ⟨g, args, args', h1, h2, by rw [← e1]; exact h3, h4, by rw [← e2]; exact h5⟩
      · exact h
    · rename_i hk; exact absurd hk hq
    · exact h
  · exact h
  · exact h

/-- What an operation marks was there. -/
theorem deff_ids {P : Program} {M : Call → CK} {ops : Array Oper} {id : Id} {o : Oper} {t : Nat → PV} {σ : Sto} {v : PV} {ids : List Id} (h : DEff P M ops id o t σ v (.mark ids)) : ∀ j ∈ ids, σ j ≠ none := by
  unfold DEff at h
  split at h
  · unfold DEff1 at h
    split at h
    · exact absurd h.2 (by simp)
    · exact absurd h.2 (by simp)
    · obtain ⟨B, _, hA⟩ := h; cases hA
    · split at h
      · obtain ⟨g, args, args', h1, h2, h3, h4, h5⟩ := h
        injection h5 with h5
        subst h5
        exact (mapO_frz_le (Le.refl σ) h3).2.2
      · exact h.elim
    · split at h
      · obtain ⟨g, args, _, _, _, hA⟩ := h; cases hA
      · exact h.elim
    · exact h.elim
  · exact absurd h.2 (by simp)
  · exact h.elim

/-- What only reads does nothing else. -/
theorem deff_no {P : Program} {M : Call → CK} {ops : Array Oper} {id : Id} {o : Oper} {t : Nat → PV} {σ : Sto} {v : PV} {A : DAct} (hk : kindOf M o.op = .p ∨ kindOf M o.op = .r ∨ kindOf M o.op = .q) (h : DEff P M ops id o t σ v A) : A = .no := by
  unfold DEff at h
  split at h
  · unfold DEff1 at h
    rcases hk with hk | hk | hk <;> rw [hk] at h <;> simp only at h
    · exact h.2
    · exact h.2
    · split at h
      · obtain ⟨g, args, _, _, _, hA⟩ := h; exact hA
      · exact h.elim
  · exact h.2
  · exact h.elim

/-- What leaves the store as it is changes places with what only reads. -/
theorem swap_q {P : Program} {M : Call → CK} {ops : Array Oper} {idk idi : Id} {ok oi : Oper} (hap : ok.apart ops oi = true) (hi : kindOf M oi.op = .q) (hk : kindOf M ok.op = .p ∨ kindOf M ok.op = .r ∨ kindOf M ok.op = .q) {s : PSt} {K : PSt → Prop}
    (h : PStepG P M ops idk ok s (fun s1 => PStepG P M ops idi oi s1 K)) : PStepG P M ops idi oi s (fun s1 => PStepG P M ops idk ok s1 K) := by
  obtain ⟨a1, a2, a3⟩ := Oper.apart_spec hap
  have hdi : (kindOf M oi.op).det = true := by rw [hi]; rfl
  have hdk : (kindOf M ok.op).det = true := by rcases hk with hk | hk | hk <;> rw [hk] <;> rfl
  obtain ⟨v, A, hv, h1⟩ := (step_deff hdk).1 h
  obtain rfl := deff_no hk hv
  obtain ⟨u, B, hu, h2⟩ := (step_deff hdi).1 h1
  obtain rfl := deff_no (.inr (.inr hi)) hu
  have hu' : DEff P M ops idi oi s.t s.σ u .no := by
    have : DEff P M ops idi oi (putT s.t ok.dst v) s.σ u .no := hu
    rwa [deff_t a1] at this
  refine (step_deff hdi).2 ⟨u, .no, hu', (step_deff hdk).2 ⟨v, .no, ?_, ?_⟩⟩
  · show DEff P M ops idk ok (putT s.t oi.dst u) s.σ v .no
    rw [deff_t a3]; exact hv
  · have e1 : putT (putT s.t oi.dst u) ok.dst v = putT (putT s.t ok.dst v) oi.dst u := (putT_comm a2).symm
    show K { s with t := putT (putT s.t oi.dst u) ok.dst v, σ := s.σ }
    rw [e1]
    exact h2

theorem le_app {id : Id} {σ : Sto} (h : σ id = none) (A : DAct) : Le σ (A.app id σ) := by
  cases A with
  | no => exact Le.refl σ
  | new B => exact Le.upd h B
  | mark ids => exact Le.mark σ ids

theorem app_comm {idk idi : Id} (hne : idk ≠ idi) {σ : Sto} {A B : DAct} (hA : ∀ ids, A = .mark ids → idk ∉ ids) (hB : ∀ ids, B = .mark ids → idi ∉ ids) : B.app idk (A.app idi σ) = A.app idi (B.app idk σ) := by
  cases A with
  | no => rfl
  | new b => cases B with
    | no => rfl
    | new b' =>
      funext j
      simp only [DAct.app, upd]
      by_cases h1 : j = idk <;> by_cases h2 : j = idi <;> simp_all
    | mark ids =>
      have hi := hB ids rfl
      funext j
      simp only [DAct.app, upd, PM.mark]
      by_cases h2 : j = idi
      · subst h2; simp [hi]
      · simp [h2]
  | mark ids => cases B with
    | no => rfl
    | new b' =>
      have hi := hA ids rfl
      funext j
      simp only [DAct.app, upd, PM.mark]
      by_cases h2 : j = idk
      · subst h2; simp [hi]
      · simp [h2]
    | mark ids' =>
      funext j
      simp only [DAct.app, PM.mark]
      by_cases h1 : j ∈ ids <;> by_cases h2 : j ∈ ids'
      · simp only [h1, h2, if_true] <;> (cases hσ : σ j with
        | none => rfl
        | some b => cases b <;> rfl)
      · simp [h1, h2]
      · simp [h1, h2]
      · simp [h1, h2]

end Go.PM
end

section
set_option linter.unusedSimpArgs false
set_option linter.unusedVariables false
set_option linter.constructorNameAsVariable false
/- Regions: the text's order stands for every order that may be drawn. -/
namespace Go.PM
open Go Go.RowKit

/-- Operations by their places, one behind another. -/
def POpsI (P : Program) (M : Call → CK) (ctx : Id) (ops : Array Oper) : List Nat → PSt → (PSt → Prop) → Prop
  | [], s, K => K s
  | i :: r, s, K => match ops[i]? with
    | some o => PStepG P M ops (i :: s.c :: ctx) o s (fun s' => POpsI P M ctx ops r s' K)
    | none => False

/-- Operations without a choice, carried out. -/
def Chain (P : Program) (M : Call → CK) (ctx : Id) (ops : Array Oper) : List Nat → PSt → PSt → Prop
  | [], s, s' => s = s'
  | i :: r, s, s' => ∃ o v A, ops[i]? = some o ∧ DEff P M ops (i :: s.c :: ctx) o s.t s.σ v A ∧ Chain P M ctx ops r { s with t := putT s.t o.dst v, σ := A.app (i :: s.c :: ctx) s.σ } s'

section
variable {P : Program} {M : Call → CK} {ctx : Id} {ops : Array Oper}

theorem chain_of {l : List Nat} {K : PSt → Prop} : ∀ {ks : List Nat} {s : PSt}, (∀ k ∈ ks, ∀ o, ops[k]? = some o → (kindOf M o.op).det = true) → POpsI P M ctx ops (ks ++ l) s K → ∃ s', Chain P M ctx ops ks s s' ∧ POpsI P M ctx ops l s' K
  | [], s, _, h => ⟨s, rfl, h⟩
  | k :: ks, s, hd, h => by
    simp only [List.cons_append, POpsI] at h
    split at h
    · rename_i o ho
      obtain ⟨v, A, hv, hK⟩ := (step_deff (hd k (by simp) o ho)).1 h
      obtain ⟨s', hc, hl⟩ := chain_of (fun k hk => hd k (by simp [hk])) hK
      exact ⟨s', ⟨o, v, A, ho, hv, hc⟩, hl⟩
    · exact h.elim

theorem of_chain {l : List Nat} {K : PSt → Prop} : ∀ {ks : List Nat} {s s' : PSt}, (∀ k ∈ ks, ∀ o, ops[k]? = some o → (kindOf M o.op).det = true) → Chain P M ctx ops ks s s' → POpsI P M ctx ops l s' K → POpsI P M ctx ops (ks ++ l) s K
  | [], s, s', _, h, hl => by rw [show s = s' from h]; exact hl
  | k :: ks, s, s', hd, ⟨o, v, A, ho, hv, hc⟩, hl => by
    simp only [List.cons_append, POpsI, ho]
    exact (step_deff (hd k (by simp) o ho)).2 ⟨v, A, hv, of_chain (fun k hk => hd k (by simp [hk])) hc hl⟩

theorem chain_c : ∀ {ks : List Nat} {s s' : PSt}, Chain P M ctx ops ks s s' → s'.c = s.c
  | [], s, s', h => by rw [show s = s' from h]
  | k :: ks, s, s', ⟨o, v, A, ho, hv, hc⟩ => by rw [chain_c hc]

/-- What stands apart from all of them doesn't tell the slots behind from those ahead. -/
theorem chain_t {id : Id} {oi : Oper} {σ : Sto} {v : PV} {A : DAct} : ∀ {ks : List Nat} {s s' : PSt}, (∀ k ∈ ks, ∀ o, ops[k]? = some o → o.apart ops oi = true) → Chain P M ctx ops ks s s' → (DEff P M ops id oi s'.t σ v A ↔ DEff P M ops id oi s.t σ v A)
  | [], s, s', _, h => by rw [show s = s' from h]
  | k :: ks, s, s', ha, ⟨o, u, B, ho, hv, hc⟩ => by
    rw [chain_t (fun k hk => ha k (by simp [hk])) hc]
    exact deff_t (Oper.apart_spec (ha k (by simp) o ho)).1

/-- Of the blocks that were known ahead of them nothing is told otherwise. -/
theorem chain_σ {D : Id → Prop} : ∀ {ks : List Nat} {s s' : PSt}, (∀ k ∈ ks, ¬ D (k :: s.c :: ctx)) → Chain P M ctx ops ks s s' → ∀ j, D j → strip (s.σ j) = strip (s'.σ j)
  | [], s, s', _, h, j, _ => by rw [show s = s' from h]
  | k :: ks, s, s', hD, ⟨o, u, B, ho, hv, hc⟩, j, hj => by
    rw [← chain_σ (D := D) (ks := ks) (s := { s with t := putT s.t o.dst u, σ := B.app (k :: s.c :: ctx) s.σ }) (fun k hk => hD k (by simp [hk])) hc j hj]
    cases B with
    | no => rfl
    | new b =>
      have hne : j ≠ k :: s.c :: ctx := by rintro rfl; exact hD k (by simp) hj
      show strip (s.σ j) = strip (upd s.σ _ _ j)
      rw [upd_ne _ _ hne]
    | mark ids => exact (strip_mark _ _ _).symm

/-- An effect laid under a chain. -/
theorem chain_lay {idi : Id} {oi : Oper} {v : PV} {A : DAct} : ∀ {ks : List Nat} {s s' : PSt}, ks.Nodup → (∀ k ∈ ks, ∀ o, ops[k]? = some o → o.apart ops oi = true) → (∀ k ∈ ks, k :: s.c :: ctx ≠ idi) → s.σ idi = none → (∀ k ∈ ks, ∀ ids, A = .mark ids → k :: s.c :: ctx ∉ ids) → (∀ k ∈ ks, ∀ o, ops[k]? = some o → kindOf M o.op = .q → A = .no) →
    Chain P M ctx ops ks s s' → Chain P M ctx ops ks { s with t := putT s.t oi.dst v, σ := A.app idi s.σ } { s' with t := putT s'.t oi.dst v, σ := A.app idi s'.σ } ∧ s'.σ idi = none
  | [], s, s', _, _, _, hf, _, _, h => by
    have : s = s' := h
    subst this
    exact ⟨rfl, hf⟩
  | k :: ks, s, s', hnd, ha, hne, hf, hA, hQ, ⟨o, u, B, ho, hv, hc⟩ => by
    obtain ⟨a1, a2, a3⟩ := Oper.apart_spec (ha k (by simp) o ho)
    have hnk : k :: s.c :: ctx ≠ idi := hne k (by simp)
    have hf' : (B.app (k :: s.c :: ctx) s.σ) idi = none := by
      cases B with
      | no => exact hf
      | new b => show upd s.σ _ _ idi = none; rw [upd_ne _ _ (Ne.symm hnk)]; exact hf
      | mark ids => exact mark_none _ _ _ hf
    obtain ⟨h1, h2⟩ := chain_lay (ks := ks) (s := { s with t := putT s.t o.dst u, σ := B.app (k :: s.c :: ctx) s.σ }) (idi := idi) (oi := oi) (v := v) (A := A) (List.nodup_cons.1 hnd).2 (fun k hk => ha k (by simp [hk])) (fun k hk => hne k (by simp [hk])) hf' (fun k hk => hA k (by simp [hk])) (fun k hk => hQ k (by simp [hk])) hc
    refine ⟨⟨o, u, B, ho, ?_, ?_⟩, h2⟩
    · show DEff P M ops (k :: s.c :: ctx) o (putT s.t oi.dst v) (A.app idi s.σ) u B
      rw [deff_t a3]
      by_cases hq : kindOf M o.op = .q
      · have := hQ k (by simp) o ho hq
        subst this
        exact hv
      · exact deff_le (le_app hf A) hq hv
    · have e1 : putT (putT s.t oi.dst v) o.dst u = putT (putT s.t o.dst u) oi.dst v := (putT_comm a2).symm
      have e2 : B.app (k :: s.c :: ctx) (A.app idi s.σ) = A.app idi (B.app (k :: s.c :: ctx) s.σ) :=
        app_comm hnk (hA k (by simp)) (fun ids hB hin => by subst hB; exact deff_ids hv idi hin hf)
      simp only [e1, e2]
      exact h1

/-- What is known of a state that stands beside the model's. -/
structure Known (D : Id → Prop) (s : PSt) : Prop where
  op : ∀ i, RefIn D (s.t i)
  blk : ∀ j es w, D j → s.σ j = some (.cells es w) → ∀ (i k : Nat) (cs : List PV) (p : PV), es[i]? = some cs → cs[k]? = some p → RefIn D p

theorem refIn_ofCell (D : Id → Prop) (x : Value) : RefIn D (ofCell x) := by
  unfold ofCell
  split
  · exact .nilS
  · split
    · exact .fn _ _ _ (fun j p h => by simp at h) (fun j p h => by simp at h)
    · exact .v _
  · exact .v _
theorem refIn_ofValue (D : Id → Prop) (x : Value) : RefIn D (ofValue x) := by
  unfold ofValue
  split
  · exact .agg _ fun j p h => by
      rw [List.getElem?_map] at h
      obtain ⟨y, _, rfl⟩ := Option.map_eq_some_iff.1 h
      exact refIn_ofCell _ _
  · exact .tup _ fun j p h => by
      rw [List.getElem?_map] at h
      obtain ⟨y, _, rfl⟩ := Option.map_eq_some_iff.1 h
      exact refIn_ofCell _ _
  · exact refIn_ofCell _ _
theorem Known.ev {D : Id → Prop} {s : PSt} (h : Known D s) (x : Operand) : RefIn D (ev s.t x) := by
  cases x with
  | tmp i => exact h.op i
  | const x => exact refIn_ofValue _ _
  | global g => exact .v _
  | func f => exact .fn _ _ _ (fun j p h => by simp at h) (fun j p h => by simp at h)

theorem refIn_mem {D : Id → Prop} {cs : List PV} (h : ∀ (j : Nat) (p : PV), cs[j]? = some p → RefIn D p) : ∀ p ∈ cs, RefIn D p := fun p hp => by
  obtain ⟨j, hj⟩ := List.getElem?_of_mem hp
  exact h j p hj

theorem refIn_method {D : Id → Prop} {t : TypeId} {p q : PV} {name : String} {f : FuncId} (hp : RefIn D p) (h : pMethod P t p name = some (f, q)) : RefIn D q := by
  unfold pMethod at h
  (repeat' split at h) <;> simp at h
  · obtain ⟨_, rfl⟩ := h; exact hp
  · obtain ⟨_, rfl⟩ := h; exact hp
  · obtain ⟨hq, rfl⟩ := h
    cases hp with
    | agg _ hc =>
      unfold ld at hq
      simp only [if_true] at hq
      split at hq
      · simp at hq
        subst hq
        refine .agg _ fun j p hj => ?_
        rw [List.getElem?_take] at hj
        split at hj
        · rw [List.getElem?_drop] at hj; exact hc _ _ hj
        · cases hj
      · cases hq

theorem Known.callee {D : Id → Prop} {s : PSt} (h : Known D s) {c : Call} {g : FuncId} {args : List PV} (hc : pCallee P (PM.ev s.t) c = some (g, args)) : ∀ p ∈ args, RefIn D p := by
  have hargs : ∀ p ∈ c.args.toList.map (PM.ev s.t), RefIn D p := by
    intro p hp
    obtain ⟨x, _, rfl⟩ := List.mem_map.1 hp
    exact h.ev x
  have hm : ∀ {t : TypeId} {p : PV} {name : String} {rest : List PV}, RefIn D p → (∀ q ∈ rest, RefIn D q) → (pMethod P t p name).map (fun (f, q) => (f, q :: rest)) = some (g, args) → ∀ q ∈ args, RefIn D q := by
    intro t p name rest hp hr hm q hq
    simp only [Option.map_eq_some_iff, Prod.mk.injEq] at hm
    obtain ⟨⟨f, q'⟩, hm, rfl, rfl⟩ := hm
    rcases List.mem_cons.1 hq with rfl | hq
    · exact refIn_method hp hm
    · exact hr q hq
  unfold pCallee at hc
  simp only at hc
  split at hc
  · cases hc
  · rename_i r name _
    split at hc
    · rename_i t p he
      have := h.ev r
      rw [he] at this
      cases this with
      | iface _ _ hp => exact hm hp hargs hc
    · cases hc
  · rename_i f _
    have hf := h.ev f
    split at hc
    · rename_i g' first captured he
      simp at hc
      obtain ⟨rfl, rfl⟩ := hc
      rw [he] at hf
      cases hf with
      | fn _ _ _ h1 h2 =>
        intro p hp
        rcases List.mem_append.1 hp with hp | hp
        · exact refIn_mem h1 p hp
        · rcases List.mem_append.1 hp with hp | hp
          · exact hargs p hp
          · exact refIn_mem h2 p hp
    · rename_i name first captured he
      split at hc
      · rename_i t p rest hl
        rw [he] at hf
        cases hf with
        | fn _ _ _ h1 h2 =>
          have hall : ∀ q ∈ first ++ c.args.toList.map (PM.ev s.t), RefIn D q := fun q hq => by
            rcases List.mem_append.1 hq with hq | hq
            · exact refIn_mem h1 q hq
            · exact hargs q hq
          rw [hl] at hall
          have h0 := hall _ (List.mem_cons_self ..)
          cases h0 with
          | iface _ _ hp => exact hm hp (fun q hq => hall q (List.mem_cons_of_mem _ hq)) hc
      · cases hc
    · rename_i T name first captured he
      split at hc
      · rename_i ms t p rest hu hl
        rw [he] at hf
        cases hf with
        | fn _ _ _ h1 h2 =>
          have hall : ∀ q ∈ first ++ c.args.toList.map (PM.ev s.t), RefIn D q := fun q hq => by
            rcases List.mem_append.1 hq with hq | hq
            · exact refIn_mem h1 q hq
            · exact hargs q hq
          rw [hl] at hall
          have h0 := hall _ (List.mem_cons_self ..)
          cases h0 with
          | iface _ _ hp => exact hm hp (fun q hq => hall q (List.mem_cons_of_mem _ hq)) hc
      · cases hc
    · cases hc

theorem commK_det {a b : Kd} (h : commK a b = true) (hb : b.det = true) (hbp : b ≠ .p) : a.det = true := by
  cases a <;> cases b <;> simp_all [commK, Kd.det]
theorem commK_p {a b : Kd} (h : commK a b = true) (hb : b.det = false) : a = .p := by
  cases a <;> cases b <;> simp_all [commK, Kd.det]

theorem pops_mono : ∀ {l : List Nat} {s : PSt} {K K' : PSt → Prop}, POpsI P M ctx ops l s K → (∀ s', s'.c = s.c → K s' → K' s') → POpsI P M ctx ops l s K'
  | [], s, K, K', h, hK => hK s rfl h
  | i :: r, s, K, K', h, hK => by
    simp only [POpsI] at *
    split at h
    · exact h.mono fun s1 hc _ h1 => pops_mono h1 fun s' hc' => hK s' (hc'.trans hc)
    · exact h.elim

/-- An operation that may come up now, ahead of those before it. -/
theorem front {D : Id → Prop} {i : Nat} {oi : Oper} (hoi : ops[i]? = some oi) {rest : List Nat} {K : PSt → Prop} : ∀ {ks : List Nat} {s : PSt}, Known D s → ks.Nodup → i ∉ ks → (∀ k ∈ ks, ¬ D (k :: s.c :: ctx) ∧ s.σ (k :: s.c :: ctx) = none) → s.σ (i :: s.c :: ctx) = none →
    (∀ k ∈ ks, ∀ o, ops[k]? = some o → pairOK M ops o oi = true) → POpsI P M ctx ops (ks ++ i :: rest) s K → PStepG P M ops (i :: s.c :: ctx) oi s (fun s1 => POpsI P M ctx ops (ks ++ rest) s1 K) := by
  -- the simple swaps
  have simple : ∀ (swap : ∀ {idk idi : Id} {ok : Oper} {s : PSt} {K : PSt → Prop}, pairOK M ops ok oi = true → PStepG P M ops idk ok s (fun s1 => PStepG P M ops idi oi s1 K) → PStepG P M ops idi oi s (fun s1 => PStepG P M ops idk ok s1 K)) (ks : List Nat) (s : PSt),
      (∀ k ∈ ks, ∀ o, ops[k]? = some o → pairOK M ops o oi = true) → POpsI P M ctx ops (ks ++ i :: rest) s K → PStepG P M ops (i :: s.c :: ctx) oi s (fun s1 => POpsI P M ctx ops (ks ++ rest) s1 K) := by
    intro swap ks
    induction ks with
    | nil =>
      intro s _ h
      simp only [List.nil_append, POpsI, hoi] at h
      exact h
    | cons k ks ih =>
      intro s hp h
      simp only [List.cons_append, POpsI] at h
      split at h
      · rename_i o ho
        have h2 : PStepG P M ops (k :: s.c :: ctx) o s (fun s1 => PStepG P M ops (i :: s.c :: ctx) oi s1 (fun s2 => POpsI P M ctx ops (ks ++ rest) s2 K)) :=
          h.mono fun s1 hc _ h1 => by
            have := ih s1 (fun k hk => hp k (by simp [hk])) h1
            rwa [hc] at this
        refine (swap (hp k (by simp) o ho) h2).mono fun s1 hc _ h1 => ?_
        simp only [List.cons_append, POpsI, ho]
        rw [hc]
        exact h1
      · exact h.elim
  intro ks s hkn hnd hni hfr hfi hp h
  cases hki : kindOf M oi.op with
  | p => exact simple (fun hpk h => swap_p (by simp only [pairOK, Bool.and_eq_true] at hpk; exact hpk.1) hki h) ks s hp h
  | w => exact simple (fun hpk h => swap_kp (by simp only [pairOK, Bool.and_eq_true] at hpk; exact hpk.1) (by simp only [pairOK, Bool.and_eq_true] at hpk; exact commK_p hpk.2 (by rw [hki]; rfl)) h) ks s hp h
  | q => exact simple (fun hpk h => by
      simp only [pairOK, Bool.and_eq_true] at hpk
      refine swap_q hpk.1 hki ?_ h
      have := hpk.2
      rw [hki] at this
      generalize kindOf M _ = a at this
      cases a <;> simp_all [commK]) ks s hp h
  | s => exact simple (fun hpk h => swap_kp (by simp only [pairOK, Bool.and_eq_true] at hpk; exact hpk.1) (by simp only [pairOK, Bool.and_eq_true] at hpk; exact commK_p hpk.2 (by rw [hki]; rfl)) h) ks s hp h
  | _ =>
    have hdi : (kindOf M oi.op).det = true := by rw [hki]; rfl
    have hdk : ∀ k ∈ ks, ∀ o, ops[k]? = some o → (kindOf M o.op).det = true := fun k hk o ho => by
      have := hp k hk o ho
      simp only [pairOK, Bool.and_eq_true] at this
      exact commK_det this.2 hdi (by rw [hki]; simp)
    have hap : ∀ k ∈ ks, ∀ o, ops[k]? = some o → o.apart ops oi = true := fun k hk o ho => by
      have := hp k hk o ho
      simp only [pairOK, Bool.and_eq_true] at this
      exact this.1
    obtain ⟨sm, hch, hl⟩ := chain_of hdk h
    simp only [POpsI, hoi] at hl
    obtain ⟨v, A, hv, hK⟩ := (step_deff hdi).1 hl
    have hcm := chain_c hch
    rw [show (i :: sm.c :: ctx) = i :: s.c :: ctx by rw [hcm]] at hv hK
    rw [chain_t hap hch] at hv
    have hv' := deff_back (chain_σ (D := D) (fun k hk => (hfr k hk).1) hch) hkn.blk (fun x => hkn.ev x) (fun c g args hc => hkn.callee hc) (by rw [hki]; simp) hv
    refine (step_deff hdi).2 ⟨v, A, hv', ?_⟩
    obtain ⟨hlay, _⟩ := chain_lay (idi := i :: s.c :: ctx) (oi := oi) (v := v) (A := A) hnd hap (fun k hk e => by
      simp at e
      subst e
      exact hni hk) hfi (fun k hk ids hA hin => by subst hA; exact deff_ids hv' _ hin (hfr k hk).2) (fun k hk o ho hkq => by
      have hpk := hp k hk o ho
      simp only [pairOK, Bool.and_eq_true] at hpk
      have h2 := hpk.2
      rw [hkq] at h2
      refine deff_no ?_ hv'
      generalize kindOf M oi.op = a at h2
      cases a <;> simp_all [commK]) hch
    exact of_chain hdk hlay hK

end

/-! ### The static check -/
def predsOf (o : Oper) : List Nat := (o.after.toList.filter (fun e => Region.binds .any e)).map (·.on)

def maskOf (acc : List Nat) (o : Oper) : Nat := (predsOf o).foldl (fun s j => s ||| (1 <<< j) ||| acc.getD j 0) 0
/-- For each operation the bits of those that surely come ahead of it. -/
def masks : List Oper → List Nat → List Nat
  | [], acc => acc
  | o :: r, acc => masks r (acc ++ [maskOf acc o])

def regOK (M : Call → CK) (N : Nat) (ops : Array Oper) (draw : Bool) : Bool :=
  (ops.toList.all fun o => match o.dst with | some d => decide (d < N) | none => true) &&
  ((List.range ops.size).all fun i => match ops[i]? with | some o => (predsOf o).all (fun k => decide (k < i)) | none => true) &&
  (!draw || (let b := masks ops.toList []; (List.range ops.size).all fun i => (List.range i).all fun k => (b.getD i 0).testBit k || (match ops[k]?, ops[i]? with | some x, some y => pairOK M ops x y | _, _ => true)))

/-- k comes ahead of i. -/
inductive Ahead (ops : Array Oper) : Nat → Nat → Prop where
  | edge {k i : Nat} {o : Oper} (ho : ops[i]? = some o) (h : k ∈ predsOf o) : Ahead ops k i
  | trans {k j i : Nat} {o : Oper} (ho : ops[i]? = some o) (h : j ∈ predsOf o) (hk : Ahead ops k j) : Ahead ops k i

theorem masks_ok {ops : Array Oper} : ∀ (l : List Oper) (acc : List Nat), (∀ (j : Nat), l[j]? = ops[acc.length + j]?) → (∀ i k, (acc.getD i 0).testBit k = true → Ahead ops k i) → ∀ i k, ((masks l acc).getD i 0).testBit k = true → Ahead ops k i
  | [], acc, _, h => h
  | o :: r, acc, hl, h => by
    refine masks_ok r (acc ++ [maskOf acc o]) (fun j => ?_) (fun i k hk => ?_)
    · have := hl (j + 1)
      simp only [List.getElem?_cons_succ] at this
      rw [this]
      congr 1
      simp
      omega
    · rcases Nat.lt_trichotomy i acc.length with hi | hi | hi
      · rw [List.getD_eq_getElem?_getD, List.getElem?_append_left hi, ← List.getD_eq_getElem?_getD] at hk
        exact h i k hk
      · subst hi
        rw [List.getD_eq_getElem?_getD, List.getElem?_append_right (Nat.le_refl _)] at hk
        simp at hk
        have ho : ops[acc.length]? = some o := by have := hl 0; simpa using this.symm
        have key : ∀ (ps : List Nat) (s : Nat), (∀ j ∈ ps, j ∈ predsOf o) → (s.testBit k = true → Ahead ops k acc.length) → (ps.foldl (fun s j => s ||| (1 <<< j) ||| acc.getD j 0) s).testBit k = true → Ahead ops k acc.length := by
          intro ps
          induction ps with
          | nil => intro s _ hs hk; exact hs hk
          | cons p ps ih =>
            intro s hps hs hk
            refine ih _ (fun j hj => hps j (by simp [hj])) (fun hb => ?_) hk
            simp only [Nat.testBit_or, Bool.or_eq_true] at hb
            rcases hb with (hb | hb) | hb
            · exact hs hb
            · have : k = p := by
                rw [Nat.one_shiftLeft, Nat.testBit_two_pow] at hb
                simpa using (of_decide_eq_true hb).symm
              subst this
              exact .edge ho (hps _ (by simp))
            · exact .trans ho (hps p (by simp)) (h p k hb)
        exact key (predsOf o) 0 (fun j hj => hj) (fun hb => by simp at hb) hk
      · rw [List.getD_eq_getElem?_getD, List.getElem?_eq_none (by simp; omega)] at hk
        simp at hk

/-- What has come up holds all that comes ahead of it. -/
def Closed (ops : Array Oper) (listed : Array Bool) : Prop := ∀ i o, listed.getD i false = true → ops[i]? = some o → ∀ j ∈ predsOf o, listed.getD j false = true

theorem ahead_listed {ops : Array Oper} {listed : Array Bool} (hc : Closed ops listed) {k i : Nat} (h : Ahead ops k i) : (∀ o, ops[i]? = some o → ∀ j ∈ predsOf o, listed.getD j false = true) → listed.getD k false = true := by
  induction h with
  | edge ho h => exact fun hp => hp _ ho _ h
  | trans ho h hk ih => exact fun hp => ih fun o' ho' j hj => hc _ _ (hp _ ho _ h) ho' j hj

end Go.PM
end

section
set_option linter.unusedSimpArgs false
set_option linter.unusedVariables false
set_option linter.constructorNameAsVariable false
/- Regions carried out. -/
namespace Go.PM
open Go Go.RowKit

theorem suffix_eq {α : Type} {a b j : List α} (h : a <:+ j) (k : b <:+ j) (hl : a.length = b.length) : a = b := by
  rcases List.suffix_or_suffix_of_suffix h k with h | h
  · exact h.eq_of_length hl
  · exact (h.eq_of_length hl.symm).symm

/-- Nothing lies there yet. -/
def FreshC (ctx : Id) (c : Nat) (ι : Loc) (σ : Sto) : Prop := ∀ c' i j, c ≤ c' → (i :: c' :: ctx) <:+ j → ι j = none ∧ σ j = none

def AfterL (P : Program) (base N : Nat) (ctx : Id) (l : List Nat) (F : Froz) (ι : Loc) (s : PSt) (w : World) (K : PSt → Prop) (a' : Act) (w' : World) : Prop :=
  ∃ s' F' ι', K s' ∧ s'.c = s.c ∧ Sim P base N F' ι' s' a' w' ∧ GrowB base F F' ι ι' ∧ Below base w w' ∧ ∀ j, (∀ i ∈ l, ¬ (i :: s.c :: ctx) <:+ j) → ι' j = ι j ∧ (s.σ j = none → s'.σ j = none)

theorem AfterL.of_after {P : Program} {base N : Nat} {ctx : Id} {l l' : List Nat} {F F1 : Froz} {ι ι1 : Loc} {s s1 : PSt} {w w1 : World} {K : PSt → Prop} {a' : Act} {w' : World} {i : Nat}
    (hl : ∀ k ∈ l', k ∈ l) (hi : i ∈ l) (hc : s1.c = s.c) (hg : GrowB base F F1 ι ι1) (hb : Below base w w1) (hj : ∀ j, ¬ (i :: s.c :: ctx) <:+ j → ι1 j = ι j ∧ (s.σ j = none → s1.σ j = none))
    (h : AfterL P base N ctx l' F1 ι1 s1 w1 K a' w') : AfterL P base N ctx l F ι s w K a' w' := by
  obtain ⟨s', F', ι', hK, hc', hs, hg', hb', hj'⟩ := h
  refine ⟨s', F', ι', hK, hc'.trans hc, hs, hg.trans hg', hb.trans hb', fun j hn => ?_⟩
  obtain ⟨h1, h2⟩ := hj j (hn i hi)
  obtain ⟨h3, h4⟩ := hj' j (fun k hk => by rw [hc]; exact hn k (hl k hk))
  exact ⟨h3.trans h1, fun h => h4 (h2 h)⟩

theorem fresh_next {ctx : Id} {ι ι1 : Loc} {s s1 : PSt} {i k : Nat} (hki : k ≠ i) (hc : s1.c = s.c) (hj : ∀ j, ¬ (i :: s.c :: ctx) <:+ j → ι1 j = ι j ∧ (s.σ j = none → s1.σ j = none))
    (h : ∀ j, (k :: s.c :: ctx) <:+ j → ι j = none ∧ s.σ j = none) : ∀ j, (k :: s1.c :: ctx) <:+ j → ι1 j = none ∧ s1.σ j = none := by
  intro j hs
  rw [hc] at hs
  have hn : ¬ (i :: s.c :: ctx) <:+ j := fun h' => hki (by have := suffix_eq hs h' (by simp); simpa using this)
  obtain ⟨h1, h2⟩ := hj j hn
  obtain ⟨h3, h4⟩ := h j hs
  exact ⟨h1.trans h3, h2 h4⟩

section
variable {P : Program} {M : Call → CK} {base N : Nat} {ctx : Id} {ops : Array Oper} {Q : Exit → Act → World → Prop} {K : PSt → Prop}

/-- The text's order. -/
theorem ops_ok (hd : ∀ (i : Nat) o k, ops[i]? = some o → o.dst = some k → k < N) : ∀ (l : List Nat) {F : Froz} {ι : Loc} {s : PSt} {a : Act} {w : World}, l.Nodup → POpsI P M ctx ops l s K → Sim P base N F ι s a w →
    (∀ i ∈ l, ∀ j, (i :: s.c :: ctx) <:+ j → ι j = none ∧ s.σ j = none) → (∀ a' w', AfterL P base N ctx l F ι s w K a' w' → Q .normal a' w') → wpOps P ops Q l a w
  | [], F, ι, s, a, w, _, h, sim, _, hQ => hQ a w ⟨s, F, ι, h, rfl, sim, GrowB.refl _ _ _, Below.refl _ _, fun j _ => ⟨rfl, fun h => h⟩⟩
  | i :: l, F, ι, s, a, w, hnd, h, sim, hf, hQ => by
    rw [wpOps_cons]
    simp only [POpsI] at h
    split at h
    · rename_i o ho
      refine wpOp_mono ?_ (stepG_ok ho h sim (hf i (by simp)) (fun k hk => hd i o k ho hk))
      rintro a1 w1 ⟨s1, F1, ι1, h1, hc, sim1, hg, hb, hj⟩
      refine ops_ok hd l (List.nodup_cons.1 hnd).2 h1 sim1 (fun k hk => fresh_next (i := i) (fun e => (List.nodup_cons.1 hnd).1 (by rw [← e]; exact hk)) hc hj (hf k (by simp [hk]))) fun a' w' ha => hQ a' w' (ha.of_after (fun k hk => by simp [hk]) (by simp) hc hg hb hj)
    · exact h.elim

theorem Sim.known {F : Froz} {ι : Loc} {s : PSt} {a : Act} {w : World} (h : Sim P base N F ι s a w) : Known (fun id => ι id ≠ none) s where
  op i := (h.tmps i).refIn
  blk j es wr _ hs i k cs p hi hk := by
    rcases h.mem.blk j _ hs with ⟨wr', T, he, _⟩ | ⟨b, T, sz, n, hι, h0, hb, _⟩
    · injection he with h1 h2
      subst h1
      simp at hi
    · obtain ⟨c, _, _, _, _, h5⟩ := hb
      obtain ⟨x, _, hv⟩ := h5 i k cs p hi hk
      exact hv.refIn

def rem (listed : Array Bool) (n : Nat) : List Nat := (List.range n).filter fun i => !listed.getD i true

theorem mem_rem {listed : Array Bool} {n i : Nat} : i ∈ rem listed n ↔ i < n ∧ listed.getD i true = false := by
  simp [rem]

theorem nodup_rem (listed : Array Bool) (n : Nat) : (rem listed n).Nodup := List.nodup_range.filter _

/-- What is left, split at one of its places. -/
theorem rem_split {listed : Array Bool} {n i : Nat} (hn : listed.size = n) (hi : i < n) (hl : listed.getD i true = false) :
    ∃ ks rest, rem listed n = ks ++ i :: rest ∧ rem (listed.setIfInBounds i true) n = ks ++ rest ∧ (∀ k ∈ ks, k < i) := by
  have hr : List.range n = List.range i ++ i :: (List.range (n - i - 1)).map (i + 1 + ·) := by
    have : n = i + ((n - i - 1) + 1) := by omega
    conv => lhs; rw [this]
    rw [List.range_add, List.range_succ_eq_map]
    simp only [List.map_cons, Nat.add_zero, List.map_map]
    congr 2
    apply List.map_congr_left
    intro x _
    simp only [Function.comp]
    omega
  have hset : ∀ k, k ≠ i → (listed.setIfInBounds i true).getD k true = listed.getD k true := fun k hk => by
    rw [Array.getD_eq_getD_getElem?, Array.getElem?_setIfInBounds_ne (Ne.symm hk), ← Array.getD_eq_getD_getElem?]
  have hself : (listed.setIfInBounds i true).getD i true = true := by
    rw [Array.getD_eq_getD_getElem?, Array.getElem?_setIfInBounds]
    simp [hn, hi]
  refine ⟨(List.range i).filter (fun k => !listed.getD k true), ((List.range (n - i - 1)).map (i + 1 + ·)).filter (fun k => !listed.getD k true), ?_, ?_, fun k hk => by simp at hk; exact hk.1⟩
  · unfold rem
    rw [hr, List.filter_append, List.filter_cons, if_pos (by simp [hl])]
  · unfold rem
    rw [hr, List.filter_append, List.filter_cons, if_neg (by simp [hself])]
    congr 1
    · apply List.filter_congr
      intro k hk
      rw [hset k (by simp at hk; omega)]
    · apply List.filter_congr
      intro k hk
      rw [hset k (by simp at hk; obtain ⟨x, _, rfl⟩ := hk; omega)]

theorem getD_false {listed : Array Bool} {i : Nat} (hi : i < listed.size) : listed.getD i false = listed.getD i true := by
  simp [Array.getD, hi]

/-- Every order. -/
theorem any_ok (hd : ∀ (i : Nat) o k, ops[i]? = some o → o.dst = some k → k < N) (hback : ∀ (i : Nat) o, ops[i]? = some o → ∀ k ∈ predsOf o, k < i)
    (hpair : ∀ i k x y, k < i → ops[k]? = some x → ops[i]? = some y → Ahead ops k i ∨ pairOK M ops x y = true) :
    ∀ (fuel : Nat) {F : Froz} {ι : Loc} {s : PSt} {a : Act} {w : World} {listed : Array Bool}, listed.size = ops.size → (rem listed ops.size).length ≤ fuel → Closed ops listed → POpsI P M ctx ops (rem listed ops.size) s K → Sim P base N F ι s a w →
    (∀ i ∈ rem listed ops.size, ∀ j, (i :: s.c :: ctx) <:+ j → ι j = none ∧ s.σ j = none) → (∀ a' w', AfterL P base N ctx (rem listed ops.size) F ι s w K a' w' → Q .normal a' w') → wpAny P .any ops Q fuel listed a w := by
  have hempty : ∀ (listed : Array Bool), listed.size = ops.size → Region.ready .any ops listed = [] → rem listed ops.size = [] := by
    intro listed hsz hr
    cases hrem : rem listed ops.size with
    | nil => rfl
    | cons i r =>
      exfalso
      have hi : i ∈ rem listed ops.size := by rw [hrem]; simp
      obtain ⟨h1, h2⟩ := mem_rem.1 hi
      obtain ⟨ks, rest, e1, _, e3⟩ := rem_split hsz h1 h2
      have hks : ks = [] := by
        cases ks with
        | nil => rfl
        | cons k ks =>
          rw [hrem] at e1
          simp at e1
          have := e3 k (by simp)
          omega
      have hall : ∀ j, j < i → listed.getD j false = true := by
        intro j hj
        cases hjl : listed.getD j true with
        | true => rw [getD_false (by omega)]; exact hjl
        | false =>
          have hjm : j ∈ rem listed ops.size := mem_rem.2 ⟨by omega, hjl⟩
          obtain ⟨ks', rest', e1', _, e3'⟩ := rem_split hsz (i := j) (by omega) hjl
          rw [hrem] at e1'
          cases ks' with
          | nil => simp at e1'; omega
          | cons k ks' => simp at e1'; have := e3' k (by simp); omega
      have : i ∈ Region.ready .any ops listed := mem_ready.2 ⟨h2, ops[i], by simp [h1], fun e he hb => hall _ (hback i ops[i] (by simp [h1]) _ (List.mem_map.2 ⟨e, List.mem_filter.2 ⟨by simpa using he, hb⟩, rfl⟩))⟩
      rw [hr] at this
      cases this
  intro fuel
  induction fuel with
  | zero =>
    intro F ι s a w listed hsz hfu hcl h sim hf hQ
    have hrem : rem listed ops.size = [] := List.eq_nil_of_length_eq_zero (Nat.le_zero.1 hfu)
    refine ⟨?_, ?_⟩
    · cases hr : Region.ready .any ops listed with
      | nil => rfl
      | cons i r =>
        exfalso
        have : i ∈ Region.ready .any ops listed := by rw [hr]; simp
        obtain ⟨h2, o, ho, _⟩ := mem_ready.1 this
        have : i ∈ rem listed ops.size := mem_rem.2 ⟨(Array.getElem?_eq_some_iff.1 ho).1, h2⟩
        rw [hrem] at this
        cases this
    · rw [hrem] at h hQ
      exact hQ a w ⟨s, F, ι, h, rfl, sim, GrowB.refl _ _ _, Below.refl _ _, fun j _ => ⟨rfl, fun h => h⟩⟩
  | succ fuel ih =>
    intro F ι s a w listed hsz hfu hcl h sim hf hQ
    refine ⟨fun hr => ?_, fun i hi => ?_⟩
    · have hrem := hempty listed hsz hr
      rw [hrem] at h hQ
      exact hQ a w ⟨s, F, ι, h, rfl, sim, GrowB.refl _ _ _, Below.refl _ _, fun j _ => ⟨rfl, fun h => h⟩⟩
    · obtain ⟨hil, oi, hoi, hpre⟩ := mem_ready.1 hi
      have hin : i < ops.size := (Array.getElem?_eq_some_iff.1 hoi).1
      obtain ⟨ks, rest, e1, e2, e3⟩ := rem_split hsz hin hil
      have hpl : ∀ o, ops[i]? = some o → ∀ j ∈ predsOf o, listed.getD j false = true := by
        intro o ho j hj
        rw [hoi] at ho
        injection ho with ho
        subst ho
        obtain ⟨e, he, rfl⟩ := List.mem_map.1 hj
        obtain ⟨he1, he2⟩ := List.mem_filter.1 he
        exact hpre e (by simpa using he1) he2
      have hnd := nodup_rem listed ops.size
      rw [e1] at hnd h hf hQ hfu
      have hndks : ks.Nodup := (List.nodup_append.1 hnd).1
      have hik : i ∉ ks := fun hk => by have := e3 i hk; omega
      have hir : i ∉ rest := (List.nodup_cons.1 (List.nodup_append.1 hnd).2.1).1
      have hfi := hf i (by simp)
      have hstep := front (D := fun id => ι id ≠ none) hoi sim.known hndks hik (fun k hk => by
          obtain ⟨h1, h2⟩ := hf k (by simp [hk]) _ (List.suffix_refl _)
          exact ⟨fun hne => hne h1, h2⟩) (hfi _ (List.suffix_refl _)).2 (fun k hk o ho => by
          rcases hpair i k o oi (e3 k hk) ho hoi with ha | ha
          · exfalso
            have hl := ahead_listed hcl ha hpl
            have hkm : k ∈ rem listed ops.size := by rw [e1]; simp [hk]
            have := (mem_rem.1 hkm).2
            have hks : k < listed.size := by rw [hsz]; exact (mem_rem.1 hkm).1
            rw [getD_false hks] at hl
            rw [hl] at this
            cases this
          · exact ha) h
      refine wpOp_mono ?_ (stepG_ok hoi hstep sim hfi (fun k hk => hd i oi k hoi hk))
      rintro a1 w1 ⟨s1, F1, ι1, h1, hc, sim1, hg, hb, hj⟩
      have hcl' : Closed ops (listed.setIfInBounds i true) := by
        have hup : ∀ j, listed.getD j false = true → (listed.setIfInBounds i true).getD j false = true := by
          intro j hj
          rw [Array.getD_eq_getD_getElem?] at hj ⊢
          rw [Array.getElem?_setIfInBounds]
          split
          · rename_i hij
            rw [if_pos (by rw [hsz]; exact hin)]
            rfl
          · exact hj
        intro k o hk ho j hjp
        by_cases hki : k = i
        · subst hki
          exact hup _ (hpl o ho j hjp)
        · rw [Array.getD_eq_getD_getElem?, Array.getElem?_setIfInBounds_ne (Ne.symm hki), ← Array.getD_eq_getD_getElem?] at hk
          exact hup _ (hcl k o hk ho j hjp)
      refine ih (by simp [hsz]) (by rw [e2]; simp at hfu ⊢; omega) hcl' (by rw [e2]; exact h1) sim1 (fun k hk => ?_) (fun a' w' ha => ?_)
      · rw [e2] at hk
        have hki : k ≠ i := by
          rintro rfl
          rcases List.mem_append.1 hk with hk | hk
          · exact hik hk
          · exact hir hk
        refine fresh_next hki hc hj (hf k ?_)
        rcases List.mem_append.1 hk with hk | hk <;> simp [hk]
      · rw [e2] at ha
        refine hQ a' w' (ha.of_after (fun k hk => ?_) (by simp) hc hg hb hj)
        rcases List.mem_append.1 hk with hk | hk <;> simp [hk]

/-- What stands behind a region. -/
def AfterR (P : Program) (base N : Nat) (ctx : Id) (F : Froz) (ι : Loc) (s : PSt) (w : World) (K : PSt → Prop) (a' : Act) (w' : World) : Prop :=
  ∃ s' F' ι', K s' ∧ s.c ≤ s'.c ∧ Sim P base N F' ι' s' a' w' ∧ GrowB base F F' ι ι' ∧ Below base w w' ∧ FreshC ctx s'.c ι' s'.σ ∧ ∀ j, ¬ ctx <:+ j → ι' j = ι j ∧ (s.σ j = none → s'.σ j = none)

theorem suffix_tail2 {i c : Nat} {ctx j : Id} (h : (i :: c :: ctx) <:+ j) : ctx <:+ j := by
  obtain ⟨t, rfl⟩ := h
  exact ⟨t ++ [i, c], by simp⟩

/-- A region of the text carried out in whatever order. -/
theorem region_ok {rid : Nat} {draw : Bool} {F : Froz} {ι : Loc} {s : PSt} {a : Act} {w : World} (hm : P.follows .mixedOrders = true) (hok : regOK M N ops draw = true)
    (h : POpsI P M ctx ops (List.range ops.size) s (fun s' => K { s' with c := s.c + 1 })) (sim : Sim P base N F ι s a w) (hf : FreshC ctx s.c ι s.σ)
    (hQ : ∀ a' w', AfterR P base N ctx F ι s w K a' w' → Q .normal a' w') : (Code.region rid ops draw).wp P Q a w := by
  unfold regOK at hok
  simp only [Bool.and_eq_true, List.all_eq_true, Bool.or_eq_true, Bool.not_eq_true'] at hok
  obtain ⟨⟨hok1, hok2⟩, hok3⟩ := hok
  have hd : ∀ (i : Nat) o k, ops[i]? = some o → o.dst = some k → k < N := by
    intro i o k ho hk
    have := hok1 o (by simpa using Array.mem_of_getElem? ho)
    rw [hk] at this
    simpa using this
  have hback : ∀ (i : Nat) o, ops[i]? = some o → ∀ k ∈ predsOf o, k < i := by
    intro i o ho k hk
    have := hok2 i (by simp; exact (Array.getElem?_eq_some_iff.1 ho).1)
    rw [ho] at this
    simp only [List.all_eq_true] at this
    simpa using this k hk
  have hfin : ∀ (w0 : World) (l : List Nat), (∀ i ∈ l, i < ops.size) → Below base w w0 → ∀ a' w', AfterL P base N ctx l F ι s w0 (fun s' => K { s' with c := s.c + 1 }) a' w' → Q .normal a' w' := by
    rintro w0 l hl hb0 a' w' ⟨s', F', ι', hK, hc, hsim, hg, hb, hj⟩
    refine hQ a' w' ⟨_, F', ι', hK, Nat.le_succ _, ⟨hsim.mem, hsim.tmps, hsim.size, hsim.defers⟩, hg, hb0.trans hb, ?_, ?_⟩
    · intro c' i j hc' hs
      obtain ⟨h1, h2⟩ := hf c' i j (by simp at hc'; omega) hs
      obtain ⟨h3, h4⟩ := hj j (fun k hk hs' => by
        have := suffix_eq hs hs' (by simp)
        simp at this hc'
        omega)
      exact ⟨h3.trans h1, h4 h2⟩
    · intro j hn
      exact hj j fun k hk hs => hn (suffix_tail2 hs)
  have hf0 : ∀ i ∈ List.range ops.size, ∀ j, (i :: s.c :: ctx) <:+ j → ι j = none ∧ s.σ j = none := fun i _ j hs => hf s.c i j (Nat.le_refl _) hs
  cases draw with
  | false => exact wp_region (ops_ok hd _ List.nodup_range h sim hf0 (hfin w _ (fun i hi => by simpa using hi) (Below.refl _ _)))
  | true =>
    simp only [Bool.true_eq_false, false_or, Bool.or_eq_true] at hok3
    have hrem : rem (Array.replicate ops.size false) ops.size = List.range ops.size := by
      unfold rem
      apply List.filter_eq_self.2
      intro i hi
      simp at hi
      simp [Array.getD, hi]
    refine wp_region_any hm (any_ok (base := base) (ctx := ctx) (K := fun s' => K { s' with c := s.c + 1 }) (F := F) (ι := ι) (s := s) (M := M) hd hback (fun i k x y hki hx hy => ?_) ops.size (by simp) (by rw [hrem]; simp) ?_ (by rw [hrem]; exact h) ⟨sim.mem.drew, sim.tmps, sim.size, sim.defers⟩ (by rw [hrem]; exact hf0) ?_)
    · have hi : i < ops.size := (Array.getElem?_eq_some_iff.1 hy).1
      have := hok3 i (by simpa using hi) k (by simpa using hki)
      rcases this with h | h
      · exact .inl (masks_ok ops.toList [] (fun j => by simp) (fun i k h => by simp at h) i k h)
      · rw [hx, hy] at h
        exact .inr h
    · intro i o hi
      rw [Array.getD_eq_getD_getElem?] at hi
      rw [Array.getElem?_replicate] at hi
      split at hi <;> simp at hi
    · exact hfin _ _ (fun i hi => (mem_rem.1 hi).1) (Below.refl _ _).drew

end
end Go.PM
end

section
set_option linter.unusedSimpArgs false
set_option linter.unusedVariables false
set_option linter.constructorNameAsVariable false
/- Rules for the text of functions, and for functions. -/
namespace Go.PM
open Go Go.RowKit

inductive PExit where
  | normal
  | exit (id : Nat)
  | ret

def AfterC (P : Program) (base N : Nat) (ctx : Id) (F : Froz) (ι : Loc) (s : PSt) (w : World) (K : PExit → PSt → Prop) : Exit → Act → World → Prop
  | .normal, a, w' => AfterR P base N ctx F ι s w (K .normal) a w'
  | .exit id, a, w' => AfterR P base N ctx F ι s w (K (.exit id)) a w'
  | .ret, a, w' => AfterR P base N ctx F ι s w (K .ret) a w'
  | _, _, _ => False

/-- From this pure state the text comes to its ways out, each with what 'K' says. -/
def PW (P : Program) (N : Nat) (ctx : Id) (c : Code) (s : PSt) (K : PExit → PSt → Prop) : Prop :=
  ∀ (base : Nat) (F : Froz) (ι : Loc) (a : Act) (w : World), Sim P base N F ι s a w → FreshC ctx s.c ι s.σ → c.wp P (AfterC P base N ctx F ι s w K) a w

theorem AfterR.mono {P : Program} {base N : Nat} {ctx : Id} {F : Froz} {ι : Loc} {s : PSt} {w : World} {K K' : PSt → Prop} {a' : Act} {w' : World} (h : AfterR P base N ctx F ι s w K a' w') (hK : ∀ s', K s' → K' s') : AfterR P base N ctx F ι s w K' a' w' := by
  obtain ⟨s', F', ι', h1, h2⟩ := h
  exact ⟨s', F', ι', hK _ h1, h2⟩

/-- One behind another. -/
theorem AfterR.trans {P : Program} {base N : Nat} {ctx : Id} {F F1 : Froz} {ι ι1 : Loc} {s s1 : PSt} {w w1 : World} {K : PSt → Prop} {a' : Act} {w' : World}
    (hc : s.c ≤ s1.c) (hg : GrowB base F F1 ι ι1) (hb : Below base w w1) (hj : ∀ j, ¬ ctx <:+ j → ι1 j = ι j ∧ (s.σ j = none → s1.σ j = none))
    (h : AfterR P base N ctx F1 ι1 s1 w1 K a' w') : AfterR P base N ctx F ι s w K a' w' := by
  obtain ⟨s', F', ι', hK, hc', hs, hg', hb', hf, hj'⟩ := h
  refine ⟨s', F', ι', hK, Nat.le_trans hc hc', hs, hg.trans hg', hb.trans hb', hf, fun j hn => ?_⟩
  obtain ⟨h1, h2⟩ := hj j hn
  obtain ⟨h3, h4⟩ := hj' j hn
  exact ⟨h3.trans h1, fun h => h4 (h2 h)⟩

theorem AfterC.trans {P : Program} {base N : Nat} {ctx : Id} {F F1 : Froz} {ι ι1 : Loc} {s s1 : PSt} {w w1 : World} {K : PExit → PSt → Prop} {e : Exit} {a' : Act} {w' : World}
    (hc : s.c ≤ s1.c) (hg : GrowB base F F1 ι ι1) (hb : Below base w w1) (hj : ∀ j, ¬ ctx <:+ j → ι1 j = ι j ∧ (s.σ j = none → s1.σ j = none))
    (h : AfterC P base N ctx F1 ι1 s1 w1 K e a' w') : AfterC P base N ctx F ι s w K e a' w' := by
  cases e <;> first | exact h.elim | exact AfterR.trans hc hg hb hj h

section
variable {P : Program} {N : Nat} {ctx : Id} {s : PSt} {K : PExit → PSt → Prop}

theorem PW.mono {c : Code} {K' : PExit → PSt → Prop} (h : PW P N ctx c s K) (hK : ∀ e s', K e s' → K' e s') : PW P N ctx c s K' := by
  intro base F ι a w sim hf
  refine wp_mono (h base F ι a w sim hf) fun e a' w' q => ?_
  cases e <;> first | exact q.elim | exact AfterR.mono q (hK _)

theorem AfterR.here {base : Nat} {F : Froz} {ι : Loc} {a : Act} {w : World} {K : PSt → Prop} (sim : Sim P base N F ι s a w) (hf : FreshC ctx s.c ι s.σ) (h : K s) : AfterR P base N ctx F ι s w K a w :=
  ⟨s, F, ι, h, Nat.le_refl _, sim, GrowB.refl _ _ _, Below.refl _ _, hf, fun _ _ => ⟨rfl, fun h => h⟩⟩

theorem PW.skip (h : K .normal s) : PW P N ctx .skip s K := fun _ _ _ _ _ sim hf => wp_skip (AfterR.here sim hf h)
theorem PW.label {l : Nat} (h : K .normal s) : PW P N ctx (.label l) s K := fun _ _ _ _ _ sim hf => wp_label (AfterR.here sim hf h)
theorem PW.exit {id : Nat} (h : K (.exit id) s) : PW P N ctx (.exit id) s K := fun _ _ _ _ _ sim hf => wp_exit (AfterR.here sim hf h)
theorem PW.ret (h : K .ret s) : PW P N ctx .ret s K := fun _ _ _ _ _ sim hf => wp_ret (AfterR.here sim hf h)

def thenK (next : PSt → Prop) (K : PExit → PSt → Prop) : PExit → PSt → Prop
  | .normal, s => next s
  | e, s => K e s

theorem PW.seq {x y : Code} (h : PW P N ctx x s (thenK (fun s' => PW P N ctx y s' K) K)) : PW P N ctx (.seq x y) s K := by
  intro base F ι a w sim hf
  refine wp_seq (wp_mono (h base F ι a w sim hf) fun e a' w' q => ?_)
  cases e with
  | normal =>
    obtain ⟨s', F', ι', hK, hc, hs, hg, hb, hf', hj⟩ := q
    exact wp_mono (hK base F' ι' a' w' hs hf') fun e a2 w2 q2 => AfterC.trans hc hg hb hj q2
  | exit id => exact q
  | ret => exact q
  | _ => exact q.elim

theorem PW.cond {c : Operand} {x y : Code} {b : Bool} (hc : ev s.t c = .v (.bool b)) (h : PW P N ctx (if b then x else y) s K) : PW P N ctx (.cond c x y) s K := by
  intro base F ι a w sim hf
  have hv := VR.ev sim.tmps c
  rw [hc] at hv
  refine wp_cond (t := b) ?_ (h base F ι a w sim hf)
  generalize a.eval c = z at hv
  cases hv
  rfl

theorem PW.condD {c : Operand} {x y : Code} {p : Prop} [Decidable p] (hc : ev s.t c = .v (.bool (decide p))) (ht : p → PW P N ctx x s K) (hf : ¬ p → PW P N ctx y s K) : PW P N ctx (.cond c x y) s K := by
  by_cases hp : p
  · exact PW.cond (b := true) (by rw [hc]; simp [hp]) (ht hp)
  · exact PW.cond (b := false) (by rw [hc]; simp [hp]) (hf hp)

def blockK (id : Nat) (K : PExit → PSt → Prop) : PExit → PSt → Prop
  | .exit id', s => if id' = id then K .normal s else K (.exit id') s
  | e, s => K e s

theorem PW.block {id : Nat} {c : Code} (h : PW P N ctx c s (blockK id K)) : PW P N ctx (.block id c) s K := by
  intro base F ι a w sim hf
  refine wp_block (wp_mono (h base F ι a w sim hf) fun e a' w' q => ?_)
  cases e with
  | exit id' =>
    simp only [Exit.inBlock]
    split
    · rename_i he
      exact AfterR.mono q fun s' hs => by simpa [blockK, he] using hs
    · rename_i he
      exact AfterR.mono q fun s' hs => by simpa [blockK, he] using hs
  | normal => exact q
  | ret => exact q
  | _ => exact q.elim

theorem PW.region {M : Call → CK} {rid : Nat} {ops : Array Oper} {draw : Bool} (hm : P.follows .mixedOrders = true) (hok : regOK M N ops draw = true)
    (h : POpsI P M ctx ops (List.range ops.size) s (fun s' => K .normal { s' with c := s.c + 1 })) : PW P N ctx (.region rid ops draw) s K := by
  intro base F ι a w sim hf
  exact region_ok hm hok h sim hf fun a' w' q => q

theorem least {R : Nat → Prop} : ∀ {n : Nat}, R n → ∃ m, R m ∧ ∀ k, R k → m ≤ k := by
  intro n
  induction n using Nat.strongRecOn with
  | _ n ih =>
    intro h
    by_cases hk : ∃ k, R k ∧ k < n
    · obtain ⟨k, hk, hlt⟩ := hk
      exact ih k hlt hk
    · exact ⟨n, h, fun k hR => Nat.le_of_not_lt fun hlt => hk ⟨k, hR, hlt⟩⟩

open Classical in
noncomputable def leastOf (R : Nat → Prop) : Nat := if h : ∃ n, R n then Classical.choose (least h.choose_spec) else 0

theorem leastOf_spec {R : Nat → Prop} (h : ∃ n, R n) : R (leastOf R) ∧ ∀ k, R k → leastOf R ≤ k := by
  unfold leastOf
  rw [dif_pos h]
  exact Classical.choose_spec (least h.choose_spec)

/-- A loop: what stands ahead of each round, with a number that falls. -/
theorem PW.loop {c : Code} (I : Nat → PSt → Prop) (n0 : Nat) (h0 : I n0 s) (round : ∀ n s, I n s → PW P N ctx c s (thenK (fun s' => ∃ m, m < n ∧ I m s') K)) : PW P N ctx (.loop c) s K := by
  intro base F ι a w sim hf
  let R : Act → World → Nat → Prop := fun a1 w1 n => ∃ s1 F1 ι1, I n s1 ∧ s.c ≤ s1.c ∧ Sim P base N F1 ι1 s1 a1 w1 ∧ GrowB base F F1 ι ι1 ∧ Below base w w1 ∧ FreshC ctx s1.c ι1 s1.σ ∧ ∀ j, ¬ ctx <:+ j → ι1 j = ι j ∧ (s.σ j = none → s1.σ j = none)
  refine wp_loop (fun a1 w1 => ∃ n, R a1 w1 n) (fun a1 w1 => leastOf (R a1 w1)) ⟨n0, s, F, ι, h0, Nat.le_refl _, sim, GrowB.refl _ _ _, Below.refl _ _, hf, fun _ _ => ⟨rfl, fun h => h⟩⟩ ?_
  intro a1 w1 hI
  obtain ⟨s1, F1, ι1, hI1, hc, hs, hg, hb, hf1, hj⟩ := (leastOf_spec hI).1
  refine wp_mono (round _ s1 hI1 base F1 ι1 a1 w1 hs hf1) fun e a2 w2 q => ?_
  cases e with
  | normal =>
    obtain ⟨s2, F2, ι2, ⟨m, hlt, hI2⟩, h2⟩ := AfterR.trans hc hg hb hj q
    have hm : R a2 w2 m := ⟨s2, F2, ι2, hI2, h2⟩
    exact ⟨⟨m, hm⟩, Nat.lt_of_le_of_lt ((leastOf_spec ⟨m, hm⟩).2 m hm) hlt⟩
  | exit id => exact AfterR.trans hc hg hb hj q
  | ret => exact AfterR.trans hc hg hb hj q
  | _ => exact q.elim

end

/-! ### Functions -/
def pRes1 (P : Program) (s : PSt) : ResultVar → Option PV
  | .tmp t => some (s.t t)
  | .cell a T => (pLoad P s.σ T (s.t a)).map (·.1)

def pResults (P : Program) (fn : Func) (s : PSt) : Option PV :=
  match mapO (pRes1 P s) fn.results.toList with
  | some [p] => some p
  | some ps => some (.tup ps)
  | none => none

def resOf (a : Act) : ResultVar → Sem Value
  | .tmp t => pure (a.tmps.getD t undef)
  | .cell x t => do loadVar t (← asAddr (a.tmps.getD x undef))

theorem results_eq (fn : Func) (a : Act) : results fn a.tmps = (fn.results.mapM (resOf a) >>= fun vs => pure (if h : vs.size = 1 then vs[0] else .tuple vs)) := rfl

theorem load_addr {P : Program} {F : Froz} {ι : Loc} {σ : Sto} {T : TypeId} {a : PV} {x : Value} (ha : VR F ι a x) {r : PV × SAct} (h : pLoad P σ T a = some r) : ∃ ad, x = .pointer (some ad) := by
  unfold pLoad at h
  split at h
  · cases ha with | ptr => exact ⟨_, rfl⟩
  · cases ha with | cptr => exact ⟨_, rfl⟩
  · cases h

theorem results_ok {P : Program} {base N : Nat} {F : Froz} {ι : Loc} {s : PSt} {a : Act} {w : World} (sim : Sim P base N F ι s a w) {fn : Func} {r : PV} (h : pResults P fn s = some r) :
    ∃ v, (results fn a.tmps).run P w = .ok v w ∧ VR F ι r v := by
  unfold pResults at h
  have key : ∀ (l : List ResultVar) (ps : List PV), mapO (pRes1 P s) l = some ps → ∃ vs : List Value, (l.mapM (resOf a)).run P w = .ok vs w ∧ vs.length = ps.length ∧ ∀ (j : Nat) (p : PV), ps[j]? = some p → VR F ι p (vs.getD j undef) := by
    intro l
    induction l with
    | nil =>
      intro ps hp
      simp [mapO] at hp
      subst hp
      exact ⟨[], by simp, rfl, fun j p hj => by simp at hj⟩
    | cons x l ih =>
      intro ps hp
      unfold mapO at hp
      split at hp
      · rename_i b bs hb hbs
        simp at hp
        subst hp
        obtain ⟨vs, h1, h2, h3⟩ := ih bs hbs
        have hx : ∃ v, (resOf a x).run P w = .ok v w ∧ VR F ι b v := by
          cases x with
          | tmp t =>
            simp [pRes1] at hb
            subst hb
            exact ⟨_, by simp [resOf], sim.tmps t⟩
          | cell x T =>
            simp only [pRes1, Option.map_eq_some_iff] at hb
            obtain ⟨⟨v, act⟩, hl, rfl⟩ := hb
            obtain ⟨ad, had⟩ := load_addr (sim.tmps x) hl
            obtain ⟨_, y, hy, hv⟩ := load_ok sim.mem (sim.tmps x) hl
            refine ⟨y, ?_, hv⟩
            rw [had] at hy
            simp only [resOf, had]
            simpa [Instr.loadAt, Instr.sureAddr, asAddr] using hy
        obtain ⟨v, hv1, hv2⟩ := hx
        refine ⟨v :: vs, ?_, by simp [h2], fun j p hj => ?_⟩
        · rw [List.mapM_cons, Sem.run_bind, hv1, Result.andThen_ok, Sem.run_bind, h1]
          simp
        · cases j with
          | zero => simp at hj; subst hj; exact hv2
          | succ j => simp at hj; exact h3 j p hj
      · cases hp
  rw [results_eq, Array.mapM_eq_mapM_toList, map_eq_pure_bind]
  generalize hps : mapO (pRes1 P s) fn.results.toList = o at h
  split at h
  · rename_i p
    have hp := hps
    simp at h
    subst h
    obtain ⟨vs, h1, h2, h3⟩ := key _ _ hp
    match vs, h2 with
    | [v], _ =>
      refine ⟨v, ?_, by simpa using h3 0 p (by simp)⟩
      simp [Sem.run_bind, h1]
  · rename_i ps hne
    have hp := hps
    simp at h
    subst h
    obtain ⟨vs, h1, h2, h3⟩ := key _ _ hp
    have hl : vs.length ≠ 1 := by
      intro hl
      rw [h2] at hl
      match ps, hl with
      | [p], _ => exact hne p rfl
    refine ⟨.tuple vs.toArray, ?_, .tup _ _ _ (by simp [h2]) fun j p hj => by simpa using h3 j p hj⟩
    simp [Sem.run_bind, h1, hl]
  · cases h

/-- How a function is entered. -/
def entry (args : List PV) : Nat → PV := fun i => args.getD i (.tup [])

def pst0 (args : List PV) (σ : Sto) : PSt := ⟨entry args, σ, 0⟩

theorem entry_sim {P : Program} {base : Nat} {F : Froz} {ι : Loc} {σ : Sto} {w : World} (hm : Mem P base F ι σ w) {args : List PV} {vals : Array Value} (hv : VRs F ι args vals) {n : Nat} (hn : args.length ≤ n) :
    Sim P base n F ι (pst0 args σ) { tmps := vals ++ Array.replicate (n - vals.size) undef, defers := [] } w := by
  refine ⟨hm, fun i => ?_, by simp; have := hv.1; omega, rfl⟩
  show VR F ι (args.getD i (.tup [])) _
  rw [Array.getD_eq_getD_getElem?]
  by_cases hi : i < args.length
  · have h1 : args[i]? = some args[i] := by simp [hi]
    have := hv.2 i _ h1
    rw [Array.getElem?_append_left (by rw [hv.1]; exact hi), ← Array.getD_eq_getD_getElem?, List.getD_eq_getElem?_getD, h1]
    exact this
  · rw [List.getD_eq_getElem?_getD, List.getElem?_eq_none (by omega), Array.getElem?_append_right (by rw [hv.1]; omega), Array.getElem?_replicate]
    split <;> exact VR.undef _ _

/-- What a function leaves: 'Q' of its result and of its store. -/
def retK (P : Program) (fn : Func) (Q : PV → Sto → Prop) : PExit → PSt → Prop
  | .exit _, _ => False
  | _, s => ∃ r, pResults P fn s = some r ∧ Q r s.σ

/-- A CONTRACT WITH THE STORE from the text. -/
theorem PCS.of {P : Program} {f : FuncId} {fn : Func} {c : Code} {args : List PV} {σ : Sto} {id : Id} {Q : PV → Sto → Prop} (hf : P.funcs[f]? = some fn) (hb : fn.body = some c) (hn : args.length ≤ fn.ntmps)
    (hex : ∃ r σ', Q r σ') (h : (∀ j, id <:+ j → σ j = none) → PW P fn.ntmps id c (pst0 args σ) (retK P fn fun r σ' => ∃ σ'', Q r σ'' ∧ ∀ j B, σ'' j = some B → σ' j = some B)) : PCS P id f args σ Q := by
  refine ⟨hex, fun base F ι w vals hm hfr hv => ?_⟩
  refine calls_of_wp hf hb (wp_mono (h (fun j hj => (hfr j hj).2) base F ι _ w (entry_sim hm hv hn) (fun c' i j _ hs => hfr j (suffix_tail2 hs))) fun e a' w' q => ?_)
  have fin : ∀ {K : PSt → Prop}, (∀ s, K s → ∃ r, pResults P fn s = some r ∧ ∃ σ'', Q r σ'' ∧ ∀ j B, σ'' j = some B → s.σ j = some B) → AfterR P base fn.ntmps id F ι (pst0 args σ) w K a' w' →
      a'.defers = [] ∧ ∃ v, (results fn a'.tmps).run P w' = .ok v w' ∧ SRes P base id F ι σ w Q (.returned v) w' := by
    rintro K hK ⟨s', F', ι', hs, _, sim, hg, hb, _, hj⟩
    obtain ⟨r, hr, σ'', hQ, hsub⟩ := hK s' hs
    obtain ⟨v, hv, hvr⟩ := results_ok sim hr
    refine ⟨sim.defers, v, hv, v, F', ι', r, σ'', rfl, hQ, hvr, sim.mem.forget hsub, hg, hb, fun j hn => ⟨(hj j hn).1, fun h0 => ?_⟩⟩
    have := (hj j hn).2 h0
    cases hσ : σ'' j with
    | none => rfl
    | some B => rw [hsub j B hσ] at this; cases this
  cases e with
  | normal => exact fin (fun s hs => hs) q
  | ret => exact fin (fun s hs => hs) q
  | exit id => obtain ⟨s', F', ι', hK, _⟩ := q; exact hK.elim
  | _ => exact q.elim

theorem VR.noLoc_any {F : Froz} {p : PV} {x : Value} {ι : Loc} (h : VR F noLoc p x) : VR F ι p x := h.grow ⟨fun _ _ _ h => h, fun _ _ h => by cases h⟩

/-- A PURE CONTRACT from the text. -/
theorem PC.of {P : Program} {f : FuncId} {fn : Func} {c : Code} {args : List PV} {r : PV} (hf : P.funcs[f]? = some fn) (hb : fn.body = some c) (hn : args.length ≤ fn.ntmps)
    (h : PW P fn.ntmps [] c (pst0 args fun _ => none) (retK P fn fun r' σ' => ∃ n, frz n σ' r' = some r)) : PC P f args r := by
  intro F w vals hF hv
  have hm : Mem P w.heap.size F noLoc (fun _ => none) w := ⟨Nat.le_refl _, hF, fun id b T s n h => by simp [noLoc] at h, fun id B h => by simp at h, fun id id' b T s n T' s' n' h => by simp at h⟩
  refine calls_of_wp hf hb (wp_mono (h w.heap.size F noLoc _ w (entry_sim hm hv hn) (fun c' i j _ _ => ⟨rfl, rfl⟩)) fun e a' w' q => ?_)
  have fin : ∀ {K : PSt → Prop}, (∀ s, K s → ∃ r', pResults P fn s = some r' ∧ ∃ n, frz n s.σ r' = some r) → AfterR P w.heap.size fn.ntmps [] F noLoc (pst0 args fun _ => none) w K a' w' →
      a'.defers = [] ∧ ∃ v, (results fn a'.tmps).run P w' = .ok v w' ∧ (∃ v' F', (Ending.returned v : Ending) = .returned v' ∧ Below w.heap.size w w' ∧ (∀ b o x, F b o = some x → F' b o = some x) ∧ (∀ b o, b < w.heap.size → F' b o = F b o) ∧
      (∀ b o x, F' b o = some x → w'.cell? ⟨b, o, none⟩ = some x) ∧ VR F' noLoc r v') := by
    rintro K hK ⟨s', F', ι', hs, _, sim, hg, hb, _, hj⟩
    obtain ⟨r', hr, n, hfz⟩ := hK s' hs
    obtain ⟨v, hv, hvr⟩ := results_ok sim hr
    have hres := frz_ok sim.mem (frzIds n s'.σ r') n hvr hfz (fun k hk => hk)
    have hm1 := sim.mem.mark (frzIds n s'.σ r')
    refine ⟨sim.defers, v, hv, v, _, rfl, hb, fun b o x hx => Fz_old sim.mem _ b o x (hg.f b o x hx), fun b o hlt => ?_, fun b o x hx => Fz_val sim.mem _ b o x hx, hres⟩
    rw [Fz_low sim.mem _ b o hlt]
    exact hg.k b o hlt
  cases e with
  | normal => exact fin (fun s hs => hs) q
  | ret => exact fin (fun s hs => hs) q
  | exit id => obtain ⟨s', F', ι', hK, _⟩ := q; exact hK.elim
  | _ => exact q.elim

end Go.PM
end

section
set_option linter.unusedSimpArgs false
set_option linter.unusedVariables false
set_option linter.constructorNameAsVariable false
/- Regions of the text evaluated by rewriting. -/
namespace Go.PM
open Go Go.RowKit

def bindK {α : Type} (o : Option α) (K : α → Prop) : Prop :=
  match o with
  | some a => K a
  | none => False

theorem bindK_some {α : Type} (a : α) (K : α → Prop) : bindK (some a) K = K a := (rfl)
theorem bindK_none {α : Type} (K : α → Prop) : bindK none K = False := (rfl)
theorem bindK_congr {α : Type} {o o' : Option α} (K : α → Prop) (h : o = o') : bindK o K = bindK o' K := by rw [h]
theorem bindK_elim {α : Type} {o : Option α} {K : α → Prop} (h : bindK o K) : ∃ a, o = some a ∧ K a := by
  unfold bindK at h
  split at h
  · exact ⟨_, rfl, h⟩
  · exact h.elim

/-! ### Numbers and truths -/
def cmpI (op : BinOp) (a b : Int) : Option Bool :=
  match op with
  | .eql => some (decide (a = b))
  | .neq => some (decide (a ≠ b))
  | .lss => some (decide (a < b))
  | .leq => some (decide (a ≤ b))
  | .gtr => some (decide (b < a))
  | .geq => some (decide (b ≤ a))
  | _ => none

def arI (op : BinOp) (k : IntKind) (a b : Int) : Option Int :=
  match op with
  | .add => some (k.wrap (a + b))
  | .sub => some (k.wrap (a - b))
  | .mul => some (k.wrap (a * b))
  | .quo => if b = 0 then none else some (k.wrap (a.tdiv b))
  | .rem => if b = 0 then none else some (a.tmod b)
  | .and => some (k.wrap (BitVec.ofInt k.bits a &&& BitVec.ofInt k.bits b).toNat)
  | .or => some (k.wrap (BitVec.ofInt k.bits a ||| BitVec.ofInt k.bits b).toNat)
  | .xor => some (k.wrap (BitVec.ofInt k.bits a ^^^ BitVec.ofInt k.bits b).toNat)
  | .andNot => some (k.wrap (BitVec.ofInt k.bits a &&& ~~~ (BitVec.ofInt k.bits b)).toNat)
  | .shl => if b < 0 then none else some (k.wrap (a * 2 ^ min b.toNat k.bits))
  | .shr => if b < 0 then none else some (a.fdiv (2 ^ min b.toNat k.bits))
  | _ => none

def binI (op : BinOp) (k : IntKind) (a b : Int) : Option PV :=
  match arI op k a b with
  | some n => some (.v (.int k n))
  | none => (cmpI op a b).map fun b => .v (.bool b)

def binB (op : BinOp) (a b : Bool) : Option PV :=
  match op with
  | .eql => some (.v (.bool (a == b)))
  | .neq => some (.v (.bool (!(a == b))))
  | _ => none

def isSh : BinOp → Bool
  | .shl | .shr => true
  | _ => false

def binS (op : BinOp) (x y : ByteArray) : Option PV :=
  match op with
  | .add => if ((x.size + y.size : Nat) : Int) > IntKind.i64.max then none else some (.v (.string (x ++ y)))
  | .eql => some (.v (.bool (x.toList == y.toList)))
  | .neq => some (.v (.bool !(x.toList == y.toList)))
  | .lss => some (.v (.bool (Op.bytesLess x.toList y.toList)))
  | .leq => some (.v (.bool (Op.bytesLess x.toList y.toList || x.toList == y.toList)))
  | .gtr => some (.v (.bool !(Op.bytesLess x.toList y.toList || x.toList == y.toList)))
  | .geq => some (.v (.bool !(Op.bytesLess x.toList y.toList)))
  | _ => none

/-- Two structs without addresses: the comparison comes to b. -/
def GoodEq (P : Program) (T : TypeId) (x y : PV) (b : Bool) : Prop :=
  ∃ a c, toV x = some (.agg a) ∧ toV y = some (.agg c) ∧ P.eqGuardType P.depth T = false ∧ pureRun P (Op.equal T (.agg a) (.agg c)) = some b

open Classical in
noncomputable def eqA (P : Program) (T : TypeId) (x y : PV) : Option Bool := if h : ∃ b, GoodEq P T x y b then some (Classical.choose h) else none

theorem eqA_spec {P : Program} {T : TypeId} {x y : PV} {b : Bool} (h : eqA P T x y = some b) : GoodEq P T x y b := by
  unfold eqA at h
  split at h
  · rename_i hb
    injection h with h
    rw [← h]
    exact Classical.choose_spec hb
  · cases h

theorem eqA_of {P : Program} {T : TypeId} {x y : PV} {b : Bool} (h : GoodEq P T x y b) : eqA P T x y = some b := by
  unfold eqA
  rw [dif_pos ⟨b, h⟩]
  congr 1
  obtain ⟨a, c, h1, h2, _, h3⟩ := Classical.choose_spec (⟨b, h⟩ : ∃ b, GoodEq P T x y b)
  obtain ⟨a', c', g1, g2, _, g3⟩ := h
  rw [h1] at g1; rw [h2] at g2
  cases g1; cases g2
  rw [h3] at g3
  injection g3

noncomputable def fBin (P : Program) (op : BinOp) (T : TypeId) (x y : PV) : Option PV :=
  match x, y with
  | .v (.int k a), .v (.int k' b) => if k = k' then binI op k a b else if isSh op then binI op k a b else none
  | .v (.bool a), .v (.bool b) => match P.underlying T with
    | some .bool => binB op a b
    | _ => none
  | .v (.string a), .v (.string b) => binS op a b
  | .agg a, .agg b => match op with
    | .eql => (eqA P T (.agg a) (.agg b)).map fun b => .v (.bool b)
    | .neq => (eqA P T (.agg a) (.agg b)).map fun b => .v (.bool !b)
    | _ => none
  | _, _ => none

theorem eqBoolIn {P : Program} {T : TypeId} (h : P.underlying T = some .bool) (d : Nat) (a b : Bool) : pureRun P (Op.equalIn (d + 1) T (.bool a) (.bool b)) = some (a == b) := by
  simp [Op.equalIn, underlying, h, pureRun, bind, Sem.bind, pure, program]

theorem eqBool {P : Program} {T : TypeId} (h : P.underlying T = some .bool) (a b : Bool) : pureRun P (Op.equal T (.bool a) (.bool b)) = some (a == b) := by
  exact eqBoolIn h 9999 a b

theorem fBin_ok {P : Program} {t : Nat → PV} {dst : Option Tmp} {op : BinOp} {T T' ty : TypeId} {x y : Operand} {pos : String} {after : Array Edge} {g : Option (Nat × Bool)} {v : PV}
    (h : fBin P op T (ev t x) (ev t y) = some v) : pGen P (ev t) ⟨dst, .binOp op T x y T', ty, pos, after, g⟩ = some v := by
  unfold fBin at h
  split at h
  · rename_i k a k' b hx hy
    unfold pGen
    simp only [notSelect, Op.operands, true_and]
    rw [if_pos (by simp [hx, hy, toV])]
    have e1 : (toV (ev t x)).getD undef = .int k a := by rw [hx]; rfl
    have e2 : (toV (ev t y)).getD undef = .int k' b := by rw [hy]; rfl
    split at h
    · rename_i hk
      subst hk
      cases op <;> simp only [binI, arI, cmpI] at h <;> (try split at h) <;> simp_all [execOp, eqGuard, binOp, Op.intArith, Op.intDiv, Op.intCmp, Op.intBits, Op.shift, pureRun, bind, Sem.bind, pure]
      all_goals (subst h; simp only [ofValue, ofCell])
      all_goals (try (rw [if_neg (by omega)]; rfl))
      all_goals (by_cases hab : a = b <;> simp [hab])
    · split at h
      · rename_i hsh
        cases op <;> simp [isSh] at hsh <;> simp only [binI, arI, cmpI] at h <;> split at h <;> simp_all [execOp, eqGuard, binOp, Op.shift, pureRun, bind, Sem.bind, pure]
        all_goals (obtain ⟨hb0, rfl⟩ := h; rw [if_neg (by omega)]; simp [pureRun, Sem.bind, ofValue, ofCell])
      · cases h
  · rename_i a b hx hy
    split at h
    · rename_i hu
      unfold pGen
      simp only [notSelect, Op.operands, true_and]
      rw [if_pos (by simp [hx, hy, toV])]
      have e1 : (toV (ev t x)).getD undef = .bool a := by rw [hx]; rfl
      have e2 : (toV (ev t y)).getD undef = .bool b := by rw [hy]; rfl
      have hg : pureRun P (eqGuard op T x y (.bool a) (.bool b)) = some () := by cases op <;> rfl
      cases op <;> simp only [binB] at h <;> first | (cases h; done) | skip
      all_goals
        simp only [execOp, e1, e2, pureRun_bind, hg, Option.bind_some, binOp, eqBool hu a b]
        simpa [pureRun, pure, ofValue, ofCell] using h
    · cases h
  · rename_i a b hx hy
    unfold pGen
    simp only [notSelect, Op.operands, true_and]
    rw [if_pos (by simp [hx, hy, toV])]
    have e1 : (toV (ev t x)).getD undef = .string a := by rw [hx]; rfl
    have e2 : (toV (ev t y)).getD undef = .string b := by rw [hy]; rfl
    have hg : pureRun P (eqGuard op T x y (.string a) (.string b)) = some () := by cases op <;> rfl
    cases op <;> simp only [binS] at h <;> first | (cases h; done) | skip
    all_goals
      simp only [execOp, e1, e2, pureRun_bind, hg, Option.bind_some, binOp, Op.stringOp]
      try split at h
      all_goals first | (cases h; done) | skip
      all_goals (try rw [if_neg (by assumption)])
      all_goals simpa [pureRun, pure, ofValue, ofCell] using h
  · rename_i a b hx hy
    have key : ∀ {c : Bool}, eqA P T (.agg a) (.agg b) = some c → (op = .eql ∨ op = .neq) → pGen P (ev t) ⟨dst, .binOp op T x y T', ty, pos, after, g⟩ = some (.v (.bool (if op = .eql then c else !c))) := by
      intro c hc hop
      obtain ⟨a', b', h1, h2, h3, h4⟩ := eqA_spec hc
      unfold pGen
      simp only [notSelect, Op.operands, true_and]
      rw [if_pos (by simp [hx, hy, h1, h2])]
      have e1 : (toV (ev t x)).getD undef = .agg a' := by rw [hx, h1]; rfl
      have e2 : (toV (ev t y)).getD undef = .agg b' := by rw [hy, h2]; rfl
      have hg : pureRun P (eqGuard op T x y (.agg a') (.agg b')) = some () := by
        rcases hop with rfl | rfl <;> simp [eqGuard, pureRun, bind, Sem.bind, pure, program, h3]
      rcases hop with rfl | rfl <;> simp [execOp, e1, e2, pureRun_bind, hg, binOp, h4, pureRun, pure, ofValue, ofCell]
    split at h
    · obtain ⟨c, hc, rfl⟩ := Option.map_eq_some_iff.1 h
      simpa using key hc (.inl rfl)
    · obtain ⟨c, hc, rfl⟩ := Option.map_eq_some_iff.1 h
      simpa using key hc (.inr rfl)
    · cases h
  · cases h

def fUn (op : UnOp) (x : PV) : Option PV :=
  match op, x with
  | .not, .v (.bool b) => some (.v (.bool !b))
  | .neg, .v (.int k n) => some (.v (.int k (k.wrap (0 - n))))
  | _, _ => none

theorem fUn_ok {P : Program} {t : Nat → PV} {dst : Option Tmp} {op : UnOp} {T ty : TypeId} {x : Operand} {pos : String} {after : Array Edge} {g : Option (Nat × Bool)} {v : PV}
    (h : fUn op (ev t x) = some v) : pGen P (ev t) ⟨dst, .unOp op T x, ty, pos, after, g⟩ = some v := by
  unfold fUn at h
  split at h
  · rename_i b hx
    simp at h; subst h
    unfold pGen
    simp only [notSelect, Op.operands, true_and]
    rw [if_pos (by simp [hx, toV])]
    simp [execOp, hx, toV, Op.unary, pureRun, bind, Sem.bind, pure, ofValue, ofCell]
  · rename_i k n hx
    simp at h; subst h
    unfold pGen
    simp only [notSelect, Op.operands, true_and]
    rw [if_pos (by simp [hx, toV])]
    simp [execOp, hx, toV, Op.unary, Op.intArith, pureRun, bind, Sem.bind, pure, ofValue, ofCell]
  · cases h

/-- Between the kinds of whole numbers. -/
def fConv (P : Program) (src dst : TypeId) (x : PV) : Option PV :=
  match P.underlying src, P.underlying dst, x with
  | some _, some (.int k), .v (.int _ n) => some (.v (.int k (k.wrap n)))
  | _, _, _ => none

theorem fConv_ok {P : Program} {t : Nat → PV} {dst : Option Tmp} {s d ty : TypeId} {x : Operand} {pos : String} {after : Array Edge} {g : Option (Nat × Bool)} {v : PV}
    (h : fConv P s d (ev t x) = some v) : pGen P (ev t) ⟨dst, .convert s d x, ty, pos, after, g⟩ = some v := by
  unfold fConv at h
  split at h
  · rename_i u k k' n hs hd hx
    simp at h; subst h
    unfold pGen
    simp only [notSelect, Op.operands, true_and]
    rw [if_pos (by simp [hx, toV])]
    simp [execOp, hx, toV, convert, underlying, hs, hd, Conv.intToInt, pureRun, bind, Sem.bind, pure, program, ofValue, ofCell]
  · cases h

/-- What reckons, told by values. -/
noncomputable def fOp (P : Program) (e : Operand → PV) (op : Op) : Option PV :=
  match op with
  | .move x | .assign x => some (e x)
  | .pick c a b => match e c with
    | .v (.bool t) => some (if t then e a else e b)
    | _ => none
  | .build T ps => (pBuild P T (ps.toList.map fun q => (q.1, e q.2))).map (·.1)
  | .nilCheck x => match e x with
    | .ptr i k off => some (.ptr i k off)
    | .cptr cs off => some (.cptr cs off)
    | .fn (.func g) a b => some (.fn (.func g) a b)
    | .iface t p => some (.iface t p)
    | _ => none
  | .makeInterface T x => match P.underlying T with
    | some (.interface _) | none => none
    | some _ => some (.iface T (e x))
  | .makeFunc f a b => some (.fn f (a.toList.map e) (b.toList.map e))
  | .slice T x lo hi mx => pSlice P T (e x) (lo.map e) (hi.map e) (mx.map e)
  | .fieldAddr S x f => pFieldAddr P S (e x) f
  | .field S x f => pField P S (e x) f
  | .indexAddr T x ix => pIndexAddr P T (e x) (e ix)
  | .extract x k => match e x with
    | .tup cs => cs[k]?
    | _ => none
  | .typeAssert x _ T ok => match e x, P.underlying T with
    | .iface _ _, some (.interface _) => none
    | .iface t p, some _ => if t = T then some (if ok then .tup [p, .v (.bool true)] else p) else none
    | _, _ => none
  | .binOp op T x y _ => match y with
    | .const c => orElse (pEqNil P op T (e x) (ofValue c)) (fBin P op T (e x) (e y))
    | _ => fBin P op T (e x) (e y)
  | .unOp op _ x => fUn op (e x)
  | .convert s d x => fConv P s d (e x)
  | _ => none

theorem fOp_ok {P : Program} {t : Nat → PV} {dst : Option Tmp} {op : Op} {ty : TypeId} {pos : String} {after : Array Edge} {g : Option (Nat × Bool)} {v : PV}
    (h : fOp P (ev t) op = some v) : pOp P (ev t) ⟨dst, op, ty, pos, after, g⟩ = some v := by
  unfold fOp at h
  unfold pOp
  cases op with
  | binOp op T x y T' =>
    cases y with
    | const c =>
      simp only at h ⊢
      rcases orElse_cases h with h1 | h1
      · rw [h1]; rfl
      · cases hq : pEqNil P op T (ev t x) (ofValue c) with
        | some z => rw [hq] at h; simpa [orElse] using h
        | none => simp only [orElse]; exact fBin_ok h1
    | _ => exact fBin_ok h
  | unOp op T x => exact fUn_ok h
  | convert s d x => exact fConv_ok h
  | slice T x lo hi mx => simp only at h ⊢; rw [h]; rfl
  | nilCheck x =>
    simp only at h ⊢
    generalize ev t x = z at h ⊢
    split at h <;> first | exact h | cases h
  | extract x k =>
    simp only at h ⊢
    generalize ev t x = z at h ⊢
    split at h <;> first | exact h | cases h
  | _ => first | exact h | cases h

/-! ### One operation behind another -/
def FS (P : Program) (M : Call → CK) (id : Id) (dst : Option Tmp) (op : Op) (s : PSt) (K : PSt → Prop) : Prop :=
  match kindOf M op with
  | .p => bindK (fOp P (ev s.t) op) fun v => K ⟨putT s.t dst v, s.σ, s.c⟩
  | .f => match op with
    | .call c => bindK (pCallee P (ev s.t) c) fun q => FuncOK P q.1 = true ∧ bindK (mapO (frz depthF s.σ) q.2) fun args' => ∃ r, PC P q.1 args' r ∧ K ⟨putT s.t dst r, mark s.σ (q.2.flatMap (frzIds depthF s.σ)), s.c⟩
    | _ => False
  | .q => match op with
    | .call c => bindK (pCallee P (ev s.t) c) fun q => FuncOK P q.1 = true ∧ ∃ r, PCS P id q.1 q.2 s.σ (fun r' σ' => r' = r ∧ σ' = s.σ) ∧ K ⟨putT s.t dst r, s.σ, s.c⟩
    | _ => False
  | .s => match op with
    | .call c => bindK (pCallee P (ev s.t) c) fun q => FuncOK P q.1 = true ∧ PCS P id q.1 q.2 s.σ (fun r σ' => K ⟨putT s.t dst r, σ', s.c⟩)
    | _ => False
  | _ => bindK (pMem P id s.σ (ev s.t) ⟨dst, op, 0, "", #[], none⟩) fun q => K ⟨putT s.t dst q.1, q.2.app id s.σ, s.c⟩

theorem FS_ok {P : Program} {M : Call → CK} {id : Id} {dst : Option Tmp} {op : Op} {ty : TypeId} {pos : String} {after : Array Edge} {g : Option (Nat × Bool)} {s : PSt} {K : PSt → Prop}
    (h : FS P M id dst op s K) : PStep P M id ⟨dst, op, ty, pos, after, g⟩ s K := by
  unfold FS at h
  unfold PStep
  simp only
  cases hk : kindOf M op <;> simp only [hk] at h ⊢
  · obtain ⟨v, hv, hK⟩ := bindK_elim h
    exact ⟨v, fOp_ok hv, hK⟩
  · obtain ⟨q, hv, hK⟩ := bindK_elim h
    exact ⟨q.1, q.2, by rw [← hv]; rfl, hK⟩
  · obtain ⟨q, hv, hK⟩ := bindK_elim h
    exact ⟨q.1, q.2, by rw [← hv]; rfl, hK⟩
  · obtain ⟨q, hv, hK⟩ := bindK_elim h
    exact ⟨q.1, q.2, by rw [← hv]; rfl, hK⟩
  · cases op with
    | call c =>
      obtain ⟨q, hc, hf, h2⟩ := bindK_elim h
      obtain ⟨args', ha, r, hp, hK⟩ := bindK_elim h2
      exact ⟨q.1, q.2, args', r, hc, hf, ha, hp, hK⟩
    | _ => exact h.elim
  · cases op with
    | call c =>
      obtain ⟨q, hc, hf, h2⟩ := bindK_elim h
      exact ⟨q.1, q.2, hc, hf, h2⟩
    | _ => exact h.elim
  · cases op with
    | call c =>
      obtain ⟨q, hc, hf, r, hp, hK⟩ := bindK_elim h
      exact ⟨q.1, q.2, r, hc, hf, hp, hK⟩
    | _ => exact h.elim

/-- The operations of a region from the place i on. -/
def FL (P : Program) (M : Call → CK) (ctx : Id) (all : Array Oper) : List Oper → Nat → PSt → (PSt → Prop) → Prop
  | [], _, s, K => K s
  | o :: r, i, s, K => match o.guard with
    | none => FS P M (i :: s.c :: ctx) o.dst o.op s (fun s' => FL P M ctx all r (i + 1) s' K)
    | some _ => match pWanted all s.t o with
      | some true => FS P M (i :: s.c :: ctx) o.dst o.op s (fun s' => FL P M ctx all r (i + 1) s' K)
      | some false => FL P M ctx all r (i + 1) ⟨putT s.t o.dst (.tup []), s.σ, s.c⟩ K
      | none => False

theorem PStep.mono' {P : Program} {M : Call → CK} {ops : Array Oper} {id : Id} {o : Oper} {s : PSt} {K K' : PSt → Prop} (h : PStep P M id o s K) (hg : pWanted ops s.t o = some true) (hK : ∀ s', s'.c = s.c → K s' → K' s') : PStepG P M ops id o s K' := by
  have : PStepG P M ops id o s K := by unfold PStepG; rw [hg]; exact h
  exact this.mono fun s1 hc _ h1 => hK s1 hc h1

theorem FL_ok {P : Program} {M : Call → CK} {ctx : Id} {ops : Array Oper} {K : PSt → Prop} : ∀ (l : List Oper) (i : Nat) (s : PSt), (∀ (j : Nat), l[j]? = ops[i + j]?) → FL P M ctx ops l i s K → POpsI P M ctx ops ((List.range l.length).map (i + ·)) s K
  | [], i, s, _, h => h
  | o :: r, i, s, hl, h => by
    have ho : ops[i]? = some o := by have := hl 0; simpa using this.symm
    have hr : ∀ (j : Nat), r[j]? = ops[i + 1 + j]? := fun j => by
      have := hl (j + 1)
      simp only [List.getElem?_cons_succ] at this
      rw [this]
      congr 1
      omega
    rw [List.length_cons, List.range_succ_eq_map]
    simp only [List.map_cons, Nat.add_zero, POpsI, ho, List.map_map]
    have hm : (List.range r.length).map ((fun x => i + x) ∘ Nat.succ) = (List.range r.length).map (i + 1 + ·) := by
      apply List.map_congr_left
      intro x _
      simp only [Function.comp]
      omega
    rw [hm]
    unfold FL at h
    split at h
    · rename_i hg
      refine (FS_ok (ty := o.type) (pos := o.pos) (after := o.after) (g := o.guard) h).mono' (by unfold pWanted; rw [hg]) fun s1 hc h1 => FL_ok r (i + 1) s1 hr h1
    · split at h
      · rename_i hw
        exact (FS_ok (ty := o.type) (pos := o.pos) (after := o.after) (g := o.guard) h).mono' hw fun s1 hc h1 => FL_ok r (i + 1) s1 hr h1
      · rename_i hw
        unfold PStepG
        rw [hw]
        exact FL_ok r (i + 1) _ hr h
      · exact h.elim

/-- A region, evaluated. -/
theorem PW.reg {P : Program} {N : Nat} {ctx : Id} {t : Nat → PV} {σ : Sto} {c : Nat} {K : PExit → PSt → Prop} (M : Call → CK) {rid : Nat} {ops : Array Oper} {draw : Bool} (hm : P.follows .mixedOrders = true) (hok : regOK M N ops draw = true)
    (h : FL P M ctx ops ops.toList 0 ⟨t, σ, c⟩ (fun s' => K .normal ⟨s'.t, s'.σ, c + 1⟩)) : PW P N ctx (.region rid ops draw) ⟨t, σ, c⟩ K := by
  refine PW.region (M := M) hm hok ?_
  have := FL_ok (ops := ops) ops.toList 0 _ (fun j => by simp) h
  simpa using this

end Go.PM
end

