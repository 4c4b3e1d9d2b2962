/- A logic of the model's text over values without addresses, and what the functions that the law reaches come to. Conditions: none. -/
import Derived.Orders
import Derived.Below
import Derived.IntWalk
import Derived.Maps.AppendAt
import Derived.Laws.MakeOwn
section
set_option linter.unusedSimpArgs false
set_option linter.unusedVariables false
set_option linter.constructorNameAsVariable false
/- The values of the pure states: what they are, and when a pure value stands for a value of the model. -/
namespace Go.PM
open Go Go.RowKit

/-- Below block number B the world is as it was; draws there may have been. -/
structure Below (B : Nat) (w w' : World) : Prop extends Go.RowKit.Below B w w' where
  dr : w.drawn ≤ w'.drawn

theorem Below.refl (B : Nat) (w : World) : Below B w w := ⟨RowKit.Below.refl _ _, Nat.le_refl _⟩
theorem Below.trans {B : Nat} {a b c : World} (h : Below B a b) (k : Below B b c) : Below B a c := ⟨h.toBelow.trans k.toBelow, Nat.le_trans h.dr k.dr⟩
theorem Below.mono {B B' : Nat} {w w' : World} (h : Below B w w') (hB : B' ≤ B) : Below B' w w' := ⟨h.toBelow.mono hB, h.dr⟩
theorem Below.drew {B : Nat} {a w : World} (h : Below B a w) : Below B a w.drew := ⟨h.toBelow.drew, Nat.le_succ_of_le h.dr⟩
theorem Below.alloc {B : Nat} {a w : World} (h : Below B a w) (hB : B ≤ w.heap.size) (o : Obj) : Below B a (w.alloc o) := ⟨h.toBelow.alloc hB o, h.dr⟩

abbrev Id := List Nat

/-- A pure value. 'any': nothing is known. 'nilS': the nil slice. 'sl': a slice that nobody writes any more, its elements laid open (each a list of cells). 'own': a slice of a block of the call's own. 'ptr': a pointer into such a block: element, cell. 'cptr': a pointer into an element that nobody writes. -/
inductive PV where
  | any
  | v (x : Value)
  | nilS
  | sl (es : List (List PV))
  | own (id : Id) (e : TypeId) (off len : Nat)
  | ptr (id : Id) (e off : Nat)
  | cptr (cs : List PV) (off : Nat)
  | mp (id : Id)
  | agg (cs : List PV)
  | tup (cs : List PV)
  | iface (t : TypeId) (p : PV)
  | fn (f : Fn) (first captured : List PV)

instance : Inhabited PV := ⟨.tup []⟩

def PV.cells : PV → List PV
  | .agg cs => cs
  | p => [p]

/-- Is it the value of one cell? -/
def PV.one : PV → Bool
  | .v x => x.oneCell'
  | .agg _ | .tup _ | .any => false
  | _ => true

def ofCell : Value → PV
  | .slice none 0 0 => .nilS
  | .func f a b => if a.size = 0 ∧ b.size = 0 then .fn f [] [] else .v (.func f a b)
  | x => .v x

def ofValue : Value → PV
  | .agg cs => .agg (cs.toList.map ofCell)
  | .tuple cs => .tup (cs.toList.map ofCell)
  | x => ofCell x

def toCell : PV → Option Value
  | .v x => some x
  | _ => none

def toCells : List PV → Option (List Value)
  | [] => some []
  | p :: r => match toCell p, toCells r with
    | some x, some xs => some (x :: xs)
    | _, _ => none

/-- The value itself, where it bears no address. -/
def toV : PV → Option Value
  | .v x => some x
  | .agg cs => (toCells cs).map fun xs => .agg xs.toArray
  | .tup cs => (toCells cs).map fun xs => .tuple xs.toArray
  | .iface t p => (toV p).map fun x => .iface t x
  | _ => none

inductive Blk where
  | cells (es : List (List PV)) (w : Bool)
  | map (ents : List (Value × PV × Nat)) (clock : Nat)

abbrev Sto := Id → Option Blk

structure PSt where
  t : Nat → PV
  σ : Sto
  c : Nat

/-- What is known of memory that is never written again. -/
abbrev Froz := Nat → Nat → Option Value

/-- Where a block of the call's own lies: its number, its elements' type, the cells of an element, how many elements there is room for. -/
abbrev Loc := Id → Option (Nat × TypeId × Nat × Nat)

def noLoc : Loc := fun _ => none

/-- The pure value stands for the value. -/
inductive VR (F : Froz) : Loc → PV → Value → Prop where
  | any (ι : Loc) (x : Value) : VR F ι .any x
  | v (ι : Loc) (x : Value) : VR F ι (.v x) x
  | nilS (ι : Loc) : VR F ι .nilS (.slice none 0 0)
  | slNil (ι : Loc) : VR F ι (.sl []) (.slice none 0 0)
  | slE (ι : Loc) (a : Addr) (cap : Nat) : VR F ι (.sl []) (.slice (some a) 0 cap)
  | sl (ι : Loc) (es : List (List PV)) (b off sz cap : Nat) (xs : Nat → Nat → Value)
      (hn : es.length ≤ cap) (hs : ∀ cs ∈ es, cs.length = sz)
      (hF : ∀ i j, i < es.length → j < sz → F b (off + i * sz + j) = some (xs i j))
      (hV : ∀ i j cs p, es[i]? = some cs → cs[j]? = some p → VR F noLoc p (xs i j)) :
      VR F ι (.sl es) (.slice (some ⟨b, off, none⟩) es.length cap)
  | ownNil (ι : Loc) (id : Id) (e : TypeId) (hι : ι id = some (0, e, 0, 0)) : VR F ι (.own id e 0 0) (.slice none 0 0)
  | ownE (ι : Loc) (id : Id) (e : TypeId) (off b o b' sz tot : Nat) (hι : ι id = some (b', e, sz, tot)) (h : 0 < off) : VR F ι (.own id e off 0) (.slice (some ⟨b, o, none⟩) 0 0)
  | own (ι : Loc) (id : Id) (e : TypeId) (off len b sz tot cap : Nat) (hι : ι id = some (b, e, sz, tot)) (hsz : 0 < sz) (hc : off + cap = tot) (hl : len ≤ cap) :
      VR F ι (.own id e off len) (.slice (some ⟨b, off * sz, none⟩) len cap)
  | ptr (ι : Loc) (id : Id) (e off b T sz tot : Nat) (hι : ι id = some (b, T, sz, tot)) (hsz : 0 < sz) :
      VR F ι (.ptr id e off) (.pointer (some ⟨b, e * sz + off, none⟩))
  | cptr (ι : Loc) (cs : List PV) (off b o : Nat) (xs : Nat → Value)
      (hF : ∀ j, j < cs.length → F b (o + j) = some (xs j)) (hV : ∀ j p, cs[j]? = some p → VR F noLoc p (xs j)) :
      VR F ι (.cptr cs off) (.pointer (some ⟨b, o + off, none⟩))
  | mp (ι : Loc) (id : Id) (b T sz tot : Nat) (hι : ι id = some (b, T, sz, tot)) (hsz : 0 < sz) : VR F ι (.mp id) (.map (some b))
  | agg (ι : Loc) (cs : List PV) (xs : Array Value) (hl : xs.size = cs.length) (h : ∀ j p, cs[j]? = some p → VR F ι p (xs.getD j undef)) : VR F ι (.agg cs) (.agg xs)
  | tup (ι : Loc) (cs : List PV) (xs : Array Value) (hl : xs.size = cs.length) (h : ∀ j p, cs[j]? = some p → VR F ι p (xs.getD j undef)) : VR F ι (.tup cs) (.tuple xs)
  | iface (ι : Loc) (t : TypeId) (p : PV) (x : Value) (h : VR F ι p x) : VR F ι (.iface t p) (.iface t x)
  | fn (ι : Loc) (f : Fn) (a b : List PV) (xs ys : Array Value) (hl : xs.size = a.length) (h : ∀ j p, a[j]? = some p → VR F ι p (xs.getD j undef))
      (hl' : ys.size = b.length) (h' : ∀ j p, b[j]? = some p → VR F ι p (ys.getD j undef)) : VR F ι (.fn f a b) (.func f xs ys)

/-- More is known, more blocks there are. -/
structure Grow (F F' : Froz) (ι ι' : Loc) : Prop where
  f : ∀ b o x, F b o = some x → F' b o = some x
  l : ∀ id y, ι id = some y → ι' id = some y

theorem Grow.refl (F : Froz) (ι : Loc) : Grow F F ι ι := ⟨fun _ _ _ h => h, fun _ _ h => h⟩
theorem Grow.trans {F F' F'' : Froz} {ι ι' ι'' : Loc} (h : Grow F F' ι ι') (k : Grow F' F'' ι' ι'') : Grow F F'' ι ι'' :=
  ⟨fun b o x e => k.f b o x (h.f b o x e), fun id y e => k.l id y (h.l id y e)⟩

theorem VR.grow {F F' : Froz} {ι : Loc} {p : PV} {x : Value} (h : VR F ι p x) : ∀ {ι' : Loc}, Grow F F' ι ι' → VR F' ι' p x := by
  induction h with
  | any ι x => intro ι' _; exact .any _ _
  | v ι x => intro ι' _; exact .v _ _
  | nilS ι => intro ι' _; exact .nilS _
  | slNil ι => intro ι' _; exact .slNil _
  | slE ι a cap => intro ι' _; exact .slE _ _ _
  | sl ι es b off sz cap xs hn hs hF hV ih =>
    intro ι' g
    exact .sl _ es b off sz cap xs hn hs (fun i j hi hj => g.f _ _ _ (hF i j hi hj)) (fun i j cs p h1 h2 => ih i j cs p h1 h2 ⟨g.f, fun _ _ h => h⟩)
  | ownNil ι id e hι => intro ι' g; exact .ownNil _ _ _ (g.l _ _ hι)
  | ownE ι id e off b o b' sz tot hι h => intro ι' g; exact .ownE _ _ _ _ _ _ _ _ _ (g.l _ _ hι) h
  | own ι id e off len b sz tot cap hι hsz hc hl => intro ι' g; exact .own _ _ _ _ _ _ _ _ _ (g.l _ _ hι) hsz hc hl
  | ptr ι id e off b T sz tot hι hsz => intro ι' g; exact .ptr _ _ _ _ _ _ _ _ (g.l _ _ hι) hsz
  | cptr ι cs off b o xs hF hV ih =>
    intro ι' g
    exact .cptr _ cs off b o xs (fun j hj => g.f _ _ _ (hF j hj)) (fun j p h1 => ih j p h1 ⟨g.f, fun _ _ h => h⟩)
  | mp ι id b T sz tot hι hsz => intro ι' g; exact .mp _ _ _ _ _ _ (g.l _ _ hι) hsz
  | agg ι cs xs hl h ih => intro ι' g; exact .agg _ _ _ hl fun j p hj => ih j p hj g
  | tup ι cs xs hl h ih => intro ι' g; exact .tup _ _ _ hl fun j p hj => ih j p hj g
  | iface ι t p x h ih => intro ι' g; exact .iface _ _ _ _ (ih g)
  | fn ι f a b xs ys hl h hl' h' ih ih' => intro ι' g; exact .fn _ _ _ _ _ _ hl (fun j p hj => ih j p hj g) hl' fun j p hj => ih' j p hj g

theorem VR.ofCell (F : Froz) (ι : Loc) (x : Value) : VR F ι (ofCell x) x := by
  unfold PM.ofCell
  split
  · exact .nilS _
  · rename_i f a b
    split
    · rename_i h
      obtain rfl : a = #[] := Array.eq_empty_of_size_eq_zero h.1
      obtain rfl : b = #[] := Array.eq_empty_of_size_eq_zero h.2
      exact .fn _ _ _ _ _ _ rfl (fun j p h => by simp at h) rfl (fun j p h => by simp at h)
    · exact .v _ _
  · exact .v _ _

theorem getD_of_map {cs : Array Value} {j : Nat} {p : PV} {f : Value → PV} (h : (cs.toList.map f)[j]? = some p) : p = f (cs.getD j undef) := by
  rw [List.getElem?_map] at h
  obtain ⟨x, hx, rfl⟩ := Option.map_eq_some_iff.1 h
  have : cs[j]? = some x := by rw [← Array.getElem?_toList]; exact hx
  rw [Array.getD_eq_getD_getElem?, this]
  rfl

theorem VR.ofValue (F : Froz) (ι : Loc) (x : Value) : VR F ι (ofValue x) x := by
  unfold PM.ofValue
  split
  · exact .agg _ _ _ (by simp) fun j p h => by rw [getD_of_map h]; exact VR.ofCell _ _ _
  · exact .tup _ _ _ (by simp) fun j p h => by rw [getD_of_map h]; exact VR.ofCell _ _ _
  · exact VR.ofCell _ _ _

theorem VR.toCell {F : Froz} {ι : Loc} {p : PV} {x y : Value} (h : VR F ι p x) (ht : toCell p = some y) : x = y := by
  cases h <;> simp [PM.toCell] at ht
  exact ht

theorem toCells_get : ∀ {cs : List PV} {ys : List Value}, toCells cs = some ys → ys.length = cs.length ∧ ∀ (j : Nat) (p : PV), cs[j]? = some p → ∃ y, ys[j]? = some y ∧ toCell p = some y
  | [], ys, h => by
    simp [toCells] at h
    subst h
    exact ⟨rfl, fun j p h => by simp at h⟩
  | p :: r, ys, h => by
    unfold toCells at h
    split at h
    · rename_i x xs hx hxs
      simp at h
      subst h
      obtain ⟨h1, h2⟩ := toCells_get hxs
      refine ⟨by simp [h1], fun j q hq => ?_⟩
      cases j with
      | zero => simp at hq; subst hq; exact ⟨x, by simp, hx⟩
      | succ j => simp at hq; obtain ⟨y, hy, ht⟩ := h2 j q hq; exact ⟨y, by simpa using hy, ht⟩
    · simp at h

theorem cells_of_toCells {F : Froz} {ι : Loc} {cs : List PV} {xs : Array Value} {ys : List Value} (hl : xs.size = cs.length)
    (h : ∀ j p, cs[j]? = some p → VR F ι p (xs.getD j undef)) (ht : toCells cs = some ys) : xs = ys.toArray := by
  obtain ⟨h1, h2⟩ := toCells_get ht
  apply Array.ext
  · simp [hl, h1]
  · intro j hj hj'
    have hjc : j < cs.length := by omega
    obtain ⟨y, hy, hty⟩ := h2 j cs[j] (by simp [hjc])
    have := VR.toCell (h j cs[j] (by simp [hjc])) hty
    have hx : xs.getD j undef = xs[j] := by simp [Array.getD, hj]
    rw [hx] at this
    simp only [List.getElem_toArray]
    rw [List.getElem?_eq_getElem (by simpa using hj')] at hy
    injection hy with hy
    rw [this, hy]

theorem VR.toV {F : Froz} {ι : Loc} {p : PV} {x y : Value} (h : VR F ι p x) : PM.toV p = some y → x = y := by
  intro ht
  induction h generalizing y with
  | v ι x => simpa [PM.toV] using ht
  | agg ι cs xs hl h ih =>
    simp only [PM.toV, Option.map_eq_some_iff] at ht
    obtain ⟨ys, hy, rfl⟩ := ht
    rw [cells_of_toCells hl h hy]
  | tup ι cs xs hl h ih =>
    simp only [PM.toV, Option.map_eq_some_iff] at ht
    obtain ⟨ys, hy, rfl⟩ := ht
    rw [cells_of_toCells hl h hy]
  | iface ι t p x h ih =>
    simp only [PM.toV, Option.map_eq_some_iff] at ht
    obtain ⟨z, hz, rfl⟩ := ht
    rw [ih hz]
  | _ => simp [PM.toV] at ht

/-- The operands. -/
def ev (t : Nat → PV) : Operand → PV
  | .tmp i => t i
  | .const x => ofValue x
  | .global g => .v (.pointer (some ⟨g, 0, none⟩))
  | .func f => .fn (.func f) [] []

theorem VR.ev {F : Froz} {ι : Loc} {t : Nat → PV} {a : Act} (h : ∀ i, VR F ι (t i) (a.tmps.getD i undef)) (x : Operand) : VR F ι (ev t x) (a.eval x) := by
  cases x with
  | tmp i => exact h i
  | const x => exact VR.ofValue _ _ _
  | global g => exact .v _ _
  | func f => exact .fn _ _ _ _ _ _ rfl (fun j p h => by simp at h) rfl (fun j p h => by simp at h)

/-- What a piece of the model's text comes to that touches no memory. -/
def pureRun {α : Type} (P : Program) : Sem α → Option α
  | .pure a => some a
  | .program k => pureRun P (k P)
  | .mark _ k => pureRun P k
  | _ => none

theorem pureRun_run {α : Type} {P : Program} {s : Sem α} {a : α} (h : pureRun P s = some a) (w : World) : s.run P w = .ok a w := by
  induction s with
  | pure b => simp [pureRun] at h; subst h; rfl
  | program k ih => exact ih P h
  | mark m k ih => exact ih h
  | _ => simp [pureRun] at h

end Go.PM
end

section
set_option linter.unusedSimpArgs false
set_option linter.unusedVariables false
set_option linter.constructorNameAsVariable false
/- Memory: how the store of a pure state lies in the model's world. -/
namespace Go.PM
open Go Go.RowKit

def upd {α : Type} (f : Id → α) (k : Id) (v : α) : Id → α := fun j => if j = k then v else f j
@[simp] theorem upd_same {α : Type} (f : Id → α) (k : Id) (v : α) : upd f k v k = v := by simp [upd]
theorem upd_ne {α : Type} (f : Id → α) {k j : Id} (v : α) (h : j ≠ k) : upd f k v j = f j := by simp [upd, h]

/-- A world, one block of it another. -/
def putBlk (w : World) (b : Nat) (o : Obj) : World := { w with heap := w.heap.setIfInBounds b o }

theorem putBlk_same (w : World) {b : Nat} (o : Obj) (h : b < w.heap.size) : (putBlk w b o).heap[b]? = some o := by
  simp [putBlk, h]
theorem putBlk_ne (w : World) {b k : Nat} (o : Obj) (h : k ≠ b) : (putBlk w b o).heap[k]? = w.heap[k]? := by
  simp [putBlk, Ne.symm h]
theorem putBlk_size (w : World) (b : Nat) (o : Obj) : (putBlk w b o).heap.size = w.heap.size := by simp [putBlk]
theorem putBlk_putBlk (w : World) (b : Nat) (o o' : Obj) : putBlk (putBlk w b o) b o' = putBlk w b o' := by
  simp [putBlk]
theorem lt_of_blk {w : World} {b : Nat} {o : Obj} (h : w.heap[b]? = some o) : b < w.heap.size := (Array.getElem?_eq_some_iff.1 h).1
theorem putBlk_id {w : World} {b : Nat} {o : Obj} (h : w.heap[b]? = some o) : putBlk w b o = w := by
  have hb := lt_of_blk h
  have h1 : w.heap[b] = o := by rw [Array.getElem?_eq_getElem hb] at h; exact Option.some.inj h
  cases w
  simp only [putBlk] at *
  congr 1
  rw [Array.setIfInBounds_def, dif_pos hb, ← h1, Array.set_getElem_self]
theorem putBlk_below (w : World) {B b : Nat} (o : Obj) (h : B ≤ b) : Below B w (putBlk w b o) :=
  ⟨⟨rfl, rfl, rfl, by simp [putBlk], fun k hk => putBlk_ne w o (by omega)⟩, Nat.le_refl _⟩

theorem setCell_putBlk {w : World} {b : Nat} {c : Array Value} {T : TypeId} {fr : Nat × Nat} (h : w.heap[b]? = some (.cells c T fr)) (o : Nat) (v : Value) :
    w.setCell ⟨b, o, none⟩ v = putBlk w b (.cells (c.setIfInBounds o v) T fr) := by
  have hb := lt_of_blk h
  have h1 : w.heap[b] = .cells c T fr := by rw [Array.getElem?_eq_getElem hb] at h; exact Option.some.inj h
  unfold World.setCell putBlk
  congr 1
  apply Array.ext_getElem?
  intro i
  rw [Array.getElem?_modify, Array.getElem?_setIfInBounds]
  by_cases hi : b = i
  · subst hi
    simp [hb, h1]
  · simp [hi]

theorem cell_of_blk {w : World} {b : Nat} {c : Array Value} {T : TypeId} {fr : Nat × Nat} (h : w.heap[b]? = some (.cells c T fr)) (o : Nat) : w.cell? ⟨b, o, none⟩ = c[o]? := by
  simp [World.cell?, h]
theorem frozen_of_blk {w : World} {b : Nat} {c : Array Value} {T : TypeId} (h : w.heap[b]? = some (.cells c T (0, 0))) (o : Nat) : w.frozen? ⟨b, o, none⟩ = false := by
  simp [World.frozen?, h]
theorem add_at (b o i : Nat) : (⟨b, o, none⟩ : Addr).add i = ⟨b, o + i, none⟩ := by
  unfold Addr.add; split <;> simp_all

/-- Cells written one behind another. -/
def wrA : Array Value → Nat → List Value → Array Value
  | c, _, [] => c
  | c, o, v :: r => wrA (c.setIfInBounds o v) (o + 1) r

theorem size_wrA : ∀ (vs : List Value) (c : Array Value) (o : Nat), (wrA c o vs).size = c.size
  | [], _, _ => rfl
  | v :: r, c, o => by rw [wrA, size_wrA r]; simp

theorem get_wrA : ∀ (vs : List Value) (c : Array Value) (o k : Nat), o + vs.length ≤ c.size →
    (wrA c o vs)[k]? = if o ≤ k ∧ k < o + vs.length then vs[k - o]? else c[k]?
  | [], c, o, k, _ => by
    rw [wrA, if_neg (by simp only [List.length_nil]; omega)]
  | v :: r, c, o, k, h => by
    simp only [List.length_cons] at h
    rw [wrA, get_wrA r _ _ _ (by simp; omega), Array.getElem?_setIfInBounds]
    simp only [List.length_cons]
    by_cases h1 : o = k
    · subst h1
      rw [if_neg (by omega), if_pos rfl, if_pos (by omega), if_pos ⟨by omega, by omega⟩]
      simp
    · by_cases h2 : o + 1 ≤ k ∧ k < o + 1 + r.length
      · rw [if_pos h2, if_pos ⟨by omega, by omega⟩]
        have : k - o = k - (o + 1) + 1 := by omega
        rw [this, List.getElem?_cons_succ]
      · rw [if_neg h2, if_neg h1, if_neg (by omega)]

theorem run_store1 {P : Program} {w : World} {b o : Nat} {c : Array Value} {T : TypeId} (h : w.heap[b]? = some (.cells c T (0, 0))) (ho : o < c.size) {v : Value} (hv : v.oneCell' = true) :
    (store ⟨b, o, none⟩ v).run P w = .ok () (putBlk w b (.cells (c.setIfInBounds o v) T (0, 0))) := by
  rw [run_store _ _ _ _ _ hv, cell_of_blk h, Array.getElem?_eq_getElem ho]
  simp only [frozen_of_blk h, Bool.false_eq_true, if_false, setCell_putBlk h]

theorem run_storeCells {P : Program} : ∀ (vs : List Value) (w : World) (b o i : Nat) (c : Array Value) (T : TypeId), w.heap[b]? = some (.cells c T (0, 0)) → o + i + vs.length ≤ c.size →
    (∀ v ∈ vs, v.oneCell' = true) → (storeCells ⟨b, o, none⟩ vs i).run P w = .ok () (putBlk w b (.cells (wrA c (o + i) vs) T (0, 0)))
  | [], w, b, o, i, c, T, h, _, _ => by
    simp only [storeCells, Sem.run_pure, wrA]
    rw [putBlk_id h]
  | v :: r, w, b, o, i, c, T, h, hl, hv => by
    simp only [List.length_cons] at hl
    have hb := lt_of_blk h
    simp only [storeCells, Sem.run_bind, add_at]
    rw [run_store1 h (by omega) (hv v (by simp)), Result.andThen_ok]
    rw [run_storeCells r _ b o (i + 1) (c.setIfInBounds (o + i) v) T (putBlk_same w _ hb) (by simp; omega) (fun u hu => hv u (by simp [hu]))]
    rw [putBlk_putBlk, wrA, Nat.add_assoc]

theorem run_loadCellsFrom {P : Program} {w : World} {b o : Nat} : ∀ (n i : Nat) (acc : Array Value) (xs : List Value), xs.length = n → (∀ j x, xs[j]? = some x → w.cell? ⟨b, o + i + j, none⟩ = some x) →
    (loadCellsFrom ⟨b, o, none⟩ i n acc).run P w = .ok (acc ++ xs.toArray) w
  | 0, i, acc, xs, hl, _ => by
    obtain rfl : xs = [] := List.eq_nil_of_length_eq_zero hl
    simp [loadCellsFrom]
  | n + 1, i, acc, x :: xs, hl, h => by
    have h0 := h 0 x (by simp)
    simp only [Nat.add_zero] at h0
    simp only [loadCellsFrom, Sem.run_bind, run_load, add_at, h0, Result.andThen_ok]
    rw [run_loadCellsFrom n (i + 1) (acc.push x) xs (by simpa using hl) (fun j y hy => by
      have := h (j + 1) y (by simpa using hy)
      rw [← this]; congr 2; omega)]
    congr 1
    apply Array.ext'
    simp

/-- How a block of the store lies in the world. -/
def BlkOK (F : Froz) (ι : Loc) (w : World) (b T sz tot : Nat) : Blk → Prop
  | .cells es _ => ∃ (c : Array Value), w.heap[b]? = some (.cells c T (0, 0)) ∧ c.size = tot * sz ∧ es.length ≤ tot ∧ (∀ cs ∈ es, cs.length = sz) ∧
      ∀ (i j : Nat) (cs : List PV) (p : PV), es[i]? = some cs → cs[j]? = some p → ∃ x, c[i * sz + j]? = some x ∧ VR F ι p x
  | .map ents clock => ∃ (arr : Array MapEntry), w.heap[b]? = some (.map arr clock) ∧ arr.size = ents.length ∧
      ∀ (j : Nat) (k : Value) (p : PV) (n : Nat), ents[j]? = some (k, p, n) → ∃ x, arr[j]? = some ⟨k, x, n⟩ ∧ VR F ι p x

/-- Who may write what. -/
def Safe (F : Froz) (b sz : Nat) : Blk → Prop
  | .cells _ true => ∀ o, F b o = none
  | .cells es false => ∀ o x, F b o = some x → o < es.length * sz
  | .map _ _ => True

def szI (P : Program) (T : TypeId) : Option Nat := (P.info? T).map (·.size)

structure Mem (P : Program) (base : Nat) (F : Froz) (ι : Loc) (σ : Sto) (w : World) : Prop where
  bd : base ≤ w.heap.size
  val : ∀ b o x, F b o = some x → w.cell? ⟨b, o, none⟩ = some x
  loc : ∀ id b T s n, ι id = some (b, T, s, n) → 0 < s → base ≤ b ∧ b < w.heap.size ∧ 0 < s ∧ szI P T = some s ∧ n ≤ maxLen
  blk : ∀ id B, σ id = some B → (∃ wr T, B = .cells [] wr ∧ ι id = some (0, T, 0, 0)) ∨ ∃ b T s n, ι id = some (b, T, s, n) ∧ 0 < s ∧ BlkOK F ι w b T s n B ∧ Safe F b s B
  inj : ∀ id id' b T s n T' s' n', σ id ≠ none → σ id' ≠ none → ι id = some (b, T, s, n) → ι id' = some (b, T', s', n') → 0 < s → 0 < s' → id = id'

theorem BlkOK.grow {F F' : Froz} {ι ι' : Loc} {w : World} {b T s n : Nat} {B : Blk} (h : BlkOK F ι w b T s n B) (g : Grow F F' ι ι') : BlkOK F' ι' w b T s n B := by
  cases B with
  | cells es wr =>
    obtain ⟨c, h1, h2, h3, h4, h5⟩ := h
    exact ⟨c, h1, h2, h3, h4, fun i j cs p hi hj => let ⟨x, hx, hv⟩ := h5 i j cs p hi hj; ⟨x, hx, hv.grow g⟩⟩
  | map ents clock =>
    obtain ⟨arr, h1, h2, h3⟩ := h
    exact ⟨arr, h1, h2, fun j k p n hj => let ⟨x, hx, hv⟩ := h3 j k p n hj; ⟨x, hx, hv.grow g⟩⟩

theorem BlkOK.world {F : Froz} {ι : Loc} {w w' : World} {b T s n : Nat} {B : Blk} (h : BlkOK F ι w b T s n B) (hw : w'.heap[b]? = w.heap[b]?) : BlkOK F ι w' b T s n B := by
  cases B with
  | cells es wr =>
    obtain ⟨c, h1, h2⟩ := h
    exact ⟨c, hw.trans h1, h2⟩
  | map ents clock =>
    obtain ⟨arr, h1, h2⟩ := h
    exact ⟨arr, hw.trans h1, h2⟩

theorem cell_world {w w' : World} {b o : Nat} (h : w'.heap[b]? = w.heap[b]?) : w'.cell? ⟨b, o, none⟩ = w.cell? ⟨b, o, none⟩ := by
  simp only [World.cell?, h]

theorem lt_of_cell {w : World} {b o : Nat} {x : Value} (h : w.cell? ⟨b, o, none⟩ = some x) : b < w.heap.size := by
  unfold World.cell? at h
  split at h
  · rename_i hb; exact lt_of_blk hb
  · cases h

/-- Nothing that there was has turned: new blocks and new knowledge of new blocks alone. -/
theorem Mem.ext {P : Program} {base : Nat} {F F' : Froz} {ι : Loc} {σ : Sto} {w w' : World} (h : Mem P base F ι σ w) (hb : Below w.heap.size w w')
    (hF : ∀ b o x, F b o = some x → F' b o = some x) (hold : ∀ b o, b < w.heap.size → F' b o = F b o) (hv : ∀ b o x, F' b o = some x → w'.cell? ⟨b, o, none⟩ = some x) : Mem P base F' ι σ w' where
  bd := Nat.le_trans h.bd hb.size
  val := hv
  loc id b T s n hι hs0 := by
    obtain ⟨h1, h2, h3⟩ := h.loc id b T s n hι hs0
    exact ⟨h1, Nat.lt_of_lt_of_le h2 hb.size, h3⟩
  blk id B hB := by
    rcases h.blk id B hB with h1 | ⟨b, T, s, n, h1, h0, h2, h3⟩
    · exact .inl h1
    · have hlt := (h.loc id b T s n h1 h0).2.1
      refine .inr ⟨b, T, s, n, h1, h0, (h2.grow ⟨hF, fun _ _ e => e⟩).world (hb.block b hlt), ?_⟩
      cases B with
      | map ents clock => trivial
      | cells es wr =>
        cases wr with
        | true => intro o; rw [hold b o hlt]; exact h3 o
        | false => intro o x; rw [hold b o hlt]; exact h3 o x
  inj := h.inj

theorem Mem.drew {P : Program} {base : Nat} {F : Froz} {ι : Loc} {σ : Sto} {w : World} (h : Mem P base F ι σ w) : Mem P base F ι σ w.drew :=
  h.ext (Below.refl _ _).drew (fun _ _ _ e => e) (fun _ _ _ => rfl) (fun b o x e => h.val b o x e)

/-- Ownership forgotten. -/
theorem Mem.forget {P : Program} {base : Nat} {F : Froz} {ι : Loc} {σ σ' : Sto} {w : World} (h : Mem P base F ι σ w) (hs : ∀ id B, σ' id = some B → σ id = some B) : Mem P base F ι σ' w where
  bd := h.bd
  val := h.val
  loc := h.loc
  blk id B hB := h.blk id B (hs id B hB)
  inj id id' b T s n T' s' n' h1 h2 := by
    refine h.inj id id' b T s n T' s' n' ?_ ?_
    · intro e
      cases hh : σ' id with
      | none => exact h1 hh
      | some B => rw [hs id B hh] at e; cases e
    · intro e
      cases hh : σ' id' with
      | none => exact h2 hh
      | some B => rw [hs id' B hh] at e; cases e

/-- A new block. -/
theorem Mem.new {P : Program} {base : Nat} {F : Froz} {ι : Loc} {σ : Sto} {w : World} (h : Mem P base F ι σ w) {id : Id} (hfresh : ι id = none) (hs : σ id = none) (o : Obj) (T : TypeId) (sz tot : Nat) (hsz : 0 < sz) (hT : szI P T = some sz) (hn : tot ≤ maxLen) (B : Blk)
    (hB : BlkOK F (upd ι id (some (w.heap.size, T, sz, tot))) (w.alloc o) w.heap.size T sz tot B) :
    Mem P base F (upd ι id (some (w.heap.size, T, sz, tot))) (upd σ id (some B)) (w.alloc o) ∧ Grow F F ι (upd ι id (some (w.heap.size, T, sz, tot))) ∧ Below base w (w.alloc o) := by
  have hg : Grow F F ι (upd ι id (some (w.heap.size, T, sz, tot))) := ⟨fun _ _ _ e => e, fun id' y e => by
    by_cases hi : id' = id
    · subst hi; rw [hfresh] at e; cases e
    · rw [upd_ne _ _ hi]; exact e⟩
  have hbl : Below w.heap.size w (w.alloc o) := (Below.refl _ _).alloc (Nat.le_refl _) o
  have hlt : ∀ b o' x, F b o' = some x → b < w.heap.size := fun b o' x e => lt_of_cell (h.val b o' x e)
  have hbase := h.bd
  refine ⟨⟨Nat.le_trans hbase hbl.size, ?_, ?_, ?_, ?_⟩, hg, hbl.mono hbase⟩
  · intro b o' x e
    rw [cell_world (hbl.block b (hlt _ _ _ e))]
    exact h.val b o' x e
  · intro id' b T' s n e hs0
    by_cases hi : id' = id
    · subst hi
      rw [upd_same] at e
      simp only [Option.some.injEq, Prod.mk.injEq] at e
      obtain ⟨e1, e2, e3, e4⟩ := e
      subst e1; subst e2; subst e3; subst e4
      exact ⟨hbase, by show _ < (w.heap.push o).size; simp, hsz, hT, hn⟩
    · rw [upd_ne _ _ hi] at e
      obtain ⟨h1, h2, h3⟩ := h.loc id' b T' s n e hs0
      exact ⟨h1, by show _ < (w.heap.push o).size; simp; omega, h3⟩
  · intro id' B' e
    by_cases hi : id' = id
    · subst hi
      rw [upd_same] at e
      injection e with e
      subst e
      refine .inr ⟨w.heap.size, T, sz, tot, upd_same _ _ _, hsz, hB, ?_⟩
      unfold Safe
      split
      · intro o'
        cases hf : F w.heap.size o' with
        | none => rfl
        | some x => exact absurd (hlt _ _ _ hf) (by omega)
      · intro o' x hf
        exact absurd (hlt _ _ _ hf) (by omega)
      · trivial
    · rw [upd_ne _ _ hi] at e
      rcases h.blk id' B' e with ⟨wr, T', h1, h2⟩ | ⟨b, T', s, n, h1, h0, h2, h3⟩
      · exact .inl ⟨wr, T', h1, by rw [upd_ne _ _ hi]; exact h2⟩
      · exact .inr ⟨b, T', s, n, hg.l _ _ h1, h0, (h2.grow hg).world (hbl.block b (h.loc id' b T' s n h1 h0).2.1), h3⟩
  · intro id1 id2 b T1 s n T2 s' n' h1 h2 e1 e2 p1 p2
    by_cases hi1 : id1 = id <;> by_cases hi2 : id2 = id
    · rw [hi1, hi2]
    · subst hi1
      rw [upd_same] at e1
      rw [upd_ne _ _ hi2] at e2
      injection e1 with e1
      injection e1 with e1 _
      have := (h.loc id2 b T2 s' n' e2 p2).2.1
      omega
    · subst hi2
      rw [upd_same] at e2
      rw [upd_ne _ _ hi1] at e1
      injection e2 with e2
      injection e2 with e2 _
      have := (h.loc id1 b T1 s n e1 p1).2.1
      omega
    · rw [upd_ne _ _ hi1] at h1 e1
      rw [upd_ne _ _ hi2] at h2 e2
      exact h.inj id1 id2 b T1 s n T2 s' n' h1 h2 e1 e2 p1 p2

/-- A block of the call's own is written: its writable cells alone, those that are known forever excepted. -/
theorem Mem.put {P : Program} {base : Nat} {F : Froz} {ι : Loc} {σ : Sto} {w : World} (h : Mem P base F ι σ w) {id : Id} {b T s n : Nat} {B0 : Blk} (hs : σ id = some B0) (hι : ι id = some (b, T, s, n)) (hs0 : 0 < s) (o : Obj) (B : Blk)
    (hval : ∀ k x, F b k = some x → (putBlk w b o).cell? ⟨b, k, none⟩ = some x)
    (hB : BlkOK F ι (putBlk w b o) b T s n B) (hsafe : Safe F b s B) :
    Mem P base F ι (upd σ id (some B)) (putBlk w b o) ∧ Below base w (putBlk w b o) := by
  obtain ⟨l1, l2, l3⟩ := h.loc id b T s n hι hs0
  refine ⟨⟨by rw [putBlk_size]; exact h.bd, ?_, ?_, ?_, ?_⟩, putBlk_below _ _ l1⟩
  · intro b' k x e
    by_cases hb : b' = b
    · subst hb; exact hval k x e
    · rw [cell_world (putBlk_ne w o hb)]; exact h.val b' k x e
  · intro id' b' T' s' n' e p
    rw [putBlk_size]
    exact h.loc id' b' T' s' n' e p
  · intro id' B' e
    by_cases hi : id' = id
    · subst hi
      rw [upd_same] at e
      injection e with e
      subst e
      exact .inr ⟨b, T, s, n, hι, hs0, hB, hsafe⟩
    · rw [upd_ne _ _ hi] at e
      rcases h.blk id' B' e with h1 | ⟨b', T', s', n', h1, h0, h2, h3⟩
      · exact .inl h1
      · refine .inr ⟨b', T', s', n', h1, h0, h2.world (putBlk_ne w o ?_), h3⟩
        intro hb
        subst hb
        exact hi (h.inj id' id b' T' s' n' T s n (by rw [e]; simp) (by rw [hs]; simp) h1 hι h0 hs0)
  · intro id1 id2 b' T1 s1 n1 T2 s2 n2 h1 h2 e1 e2 p1 p2
    refine h.inj id1 id2 b' T1 s1 n1 T2 s2 n2 ?_ ?_ e1 e2 p1 p2
    · by_cases hi : id1 = id
      · rw [hi, hs]; simp
      · rwa [upd_ne _ _ hi] at h1
    · by_cases hi : id2 = id
      · rw [hi, hs]; simp
      · rwa [upd_ne _ _ hi] at h2

end Go.PM
end

section
set_option linter.unusedSimpArgs false
set_option linter.unusedVariables false
set_option linter.constructorNameAsVariable false
/- The operations on pure states, and that the model's operations do the same. -/
namespace Go.PM
open Go Go.RowKit

/-! ### What the types' table says -/
def aggD : TypeDesc → Bool
  | .struct _ | .array _ _ => true
  | _ => false
def tyI (P : Program) (T : TypeId) : Option (Nat × Bool) :=
  match P.info? T, P.underlying T with
  | some i, some d => some (i.size, aggD d)
  | _, _ => none
def slI (P : Program) (T : TypeId) : Option (TypeId × Nat × Nat) :=
  match P.underlying T with
  | some (.slice e) => (P.info? e).map fun i => (e, i.size, i.bytes)
  | _ => none
def zrI (P : Program) (T : TypeId) : Option (List Value) := ((P.info? T).bind (·.zero)).map fun z => z.cells.toList
def fdI (P : Program) (S : TypeId) (f : Nat) : Option (Nat × Nat × Bool) :=
  match P.underlying S with
  | some (.struct fs) => match fs[f]? with
    | some fd => (tyI P fd.type).map fun (s, a) => (fd.offset, s, a)
    | none => none
  | _ => none

section
variable {P : Program} {T : TypeId} {sz : Nat} {ag : Bool} {w : World}
theorem tyI_size (h : tyI P T = some (sz, ag)) : (sizeOf T).run P w = .ok sz w := by
  unfold tyI at h
  split at h
  · rename_i i d hi hd
    simp at h
    simp [sizeOf, typeInfo, hi, h.1]
  · cases h
theorem tyI_agg (h : tyI P T = some (sz, ag)) : (isAgg T).run P w = .ok ag w := by
  unfold tyI at h
  split at h
  · rename_i i d hi hd
    simp at h
    cases d <;> simp_all [isAgg, underlying, aggD]
  · cases h
theorem slI_spec {e : TypeId} {by_ : Nat} (h : slI P T = some (e, sz, by_)) : P.underlying T = some (.slice e) ∧ ∃ i, P.info? e = some i ∧ i.size = sz ∧ i.bytes = by_ := by
  unfold slI at h
  split at h
  · rename_i e' he
    simp only [Option.map_eq_some_iff, Prod.mk.injEq] at h
    obtain ⟨i, hi, rfl, h1, h2⟩ := h
    exact ⟨he, i, hi, h1, h2⟩
  · cases h
theorem run_under {d : TypeDesc} (h : P.underlying T = some d) : (underlying T).run P w = .ok d w := by simp [underlying, h]
theorem run_info {i : TypeInfo} (h : P.info? T = some i) : (typeInfo T).run P w = .ok i w := by simp [typeInfo, h]
theorem zrI_run {zs : List Value} (h : zrI P T = some zs) : ∃ z, z.cells.toList = zs ∧ (zeroValue T).run P w = .ok z w := by
  simp only [zrI, Option.map_eq_some_iff, Option.bind_eq_some_iff] at h
  obtain ⟨z, ⟨i, hi, hz⟩, hs⟩ := h
  exact ⟨z, hs, by simp [zeroValue, typeInfo, hi, hz]⟩
end

/-! ### What an operation does to the store -/
inductive SAct where
  | no
  | new (B : Blk)
  | set (i : Id) (B : Blk)
  | kill (i : Id) (B : Blk)
def SAct.app (id : Id) (σ : Sto) : SAct → Sto
  | .no => σ
  | .new B => upd σ id (some B)
  | .set i B => upd σ i (some B)
  | .kill i B => upd (upd σ i none) id (some B)

def Yield (F : Froz) (ι : Loc) (nx : Next) (v : PV) : Prop := (∃ x, nx = .value x ∧ VR F ι v x) ∨ (nx = .skip ∧ v = .tup [])

/-- The model's operation does what the pure one tells. -/
def OpOK (P : Program) (base : Nat) (F : Froz) (ι : Loc) (id : Id) (w : World) (s : Sem Next) (v : PV) (σ' : Sto) : Prop :=
  ∃ nx w' ι', s.run P w = .ok nx w' ∧ Yield F ι' nx v ∧ Mem P base F ι' σ' w' ∧ Grow F F ι ι' ∧ Below base w w' ∧ ∀ j, j ≠ id → ι' j = ι j

theorem OpOK.pure {P : Program} {base : Nat} {F : Froz} {ι : Loc} {id : Id} {w : World} {s : Sem Next} {v : PV} {σ : Sto} (hm : Mem P base F ι σ w) {x : Value}
    (hr : s.run P w = .ok (.value x) w) (hv : VR F ι v x) : OpOK P base F ι id w s v σ :=
  ⟨_, w, ι, hr, .inl ⟨x, rfl, hv⟩, hm, Grow.refl _ _, Below.refl _ _, fun _ _ => rfl⟩

/-! ### Cells -/
theorem list_choose {α : Type} {R : Nat → α → Prop} : ∀ (n : Nat), (∀ j, j < n → ∃ x, R j x) → ∃ xs : List α, xs.length = n ∧ ∀ j x, xs[j]? = some x → R j x
  | 0, _ => ⟨[], rfl, fun j x h => by simp at h⟩
  | n + 1, h => by
    obtain ⟨xs, hl, hx⟩ := list_choose n (fun j hj => h j (by omega))
    obtain ⟨x, hr⟩ := h n (by omega)
    refine ⟨xs ++ [x], by simp [hl], fun j y hy => ?_⟩
    rcases Nat.lt_trichotomy j n with hj | hj | hj
    · rw [List.getElem?_append_left (by omega)] at hy; exact hx j y hy
    · subst hj
      rw [List.getElem?_append_right (by omega)] at hy
      simp [hl] at hy
      subst hy; exact hr
    · rw [List.getElem?_append_right (by omega)] at hy
      have : j - xs.length ≠ 0 := by omega
      cases hq : j - xs.length with
      | zero => omega
      | succ q => rw [hq] at hy; simp at hy

def ld (cs : List PV) (off sz : Nat) (ag : Bool) : Option PV :=
  if ag then (if off + sz ≤ cs.length then some (.agg ((cs.drop off).take sz)) else none) else cs[off]?

theorem run_loadVar {P : Program} {w : World} {F : Froz} {ι : Loc} {T : TypeId} {sz : Nat} {ag : Bool} (ht : tyI P T = some (sz, ag)) {b o off : Nat} {cs : List PV} {v : PV}
    (hc : ∀ j p, cs[j]? = some p → ∃ x, w.cell? ⟨b, o + j, none⟩ = some x ∧ VR F ι p x) (hl : ld cs off sz ag = some v) :
    ∃ x, (loadVar T ⟨b, o + off, none⟩).run P w = .ok x w ∧ VR F ι v x := by
  unfold ld at hl
  cases ag with
  | false =>
    simp only [Bool.false_eq_true, if_false] at hl
    obtain ⟨x, hx, hv⟩ := hc off v hl
    exact ⟨x, by simp [loadVar, tyI_agg ht, hx], hv⟩
  | true =>
    simp only [if_true] at hl
    split at hl
    · rename_i hle
      simp at hl
      subst hl
      obtain ⟨xs, hlen, hxs⟩ := list_choose (R := fun j x => w.cell? ⟨b, o + off + j, none⟩ = some x ∧ ∀ p, cs[off + j]? = some p → VR F ι p x) sz (fun j hj => by
        obtain ⟨x, hx, hv⟩ := hc (off + j) cs[off + j] (List.getElem?_eq_getElem (by omega))
        exact ⟨x, by rw [← hx]; congr 2; omega, fun p hp => by rw [List.getElem?_eq_getElem (by omega)] at hp; injection hp with hp; subst hp; exact hv⟩)
      refine ⟨.agg xs.toArray, ?_, ?_⟩
      · simp only [loadVar, Sem.run_bind, tyI_agg ht, Result.andThen_ok, if_true, tyI_size ht, loadCells]
        rw [run_loadCellsFrom sz 0 #[] xs hlen (fun j x hj => by simpa using (hxs j x hj).1)]
        simp
      · refine .agg _ _ _ (by simp [hlen]; omega) fun j p hj => ?_
        have hjs : j < sz := by
          have := (List.getElem?_eq_some_iff.1 hj).1
          simp at this
          omega
        obtain ⟨x, hx⟩ : ∃ x, xs[j]? = some x := ⟨_, List.getElem?_eq_getElem (by omega)⟩
        have h2 := (hxs j x hx).2 p (by
          rw [List.getElem?_take, if_pos hjs, List.getElem?_drop] at hj
          exact hj)
        have : xs.toArray.getD j undef = x := by
          rw [Array.getD_eq_getD_getElem?]; simp [hx]
        rw [this]
        exact h2
    · cases hl

/-- The cells of an element of a block of the store. -/
theorem Mem.cellsAt {P : Program} {base : Nat} {F : Froz} {ι : Loc} {σ : Sto} {w : World} (h : Mem P base F ι σ w) {i : Id} {b T s n : Nat} (hι : ι i = some (b, T, s, n)) (hs0 : 0 < s) {es : List (List PV)} {wr : Bool} (hs : σ i = some (.cells es wr)) :
    ∃ c, w.heap[b]? = some (.cells c T (0, 0)) ∧ c.size = n * s ∧ es.length ≤ n ∧ (∀ cs ∈ es, cs.length = s) ∧ (∀ i j cs p, es[i]? = some cs → cs[j]? = some p → ∃ x, c[i * s + j]? = some x ∧ VR F ι p x) ∧ Safe F b s (.cells es wr) := by
  rcases h.blk i _ hs with ⟨wr', T', h1, h2⟩ | ⟨b', T', s', n', h1, h0, h2, h3⟩
  · rw [h2] at hι
    simp only [Option.some.injEq, Prod.mk.injEq] at hι
    omega
  · rw [hι] at h1
    simp only [Option.some.injEq, Prod.mk.injEq] at h1
    obtain ⟨e1, e2, e3, e4⟩ := h1
    subst e1; subst e2; subst e3; subst e4
    obtain ⟨c, g1, g2, g3, g4, g5⟩ := h2
    exact ⟨c, g1, g2, g3, g4, g5, h3⟩

/-! ### load -/
def pLoad (P : Program) (σ : Sto) (T : TypeId) (a : PV) : Option (PV × SAct) :=
  match tyI P T, a with
  | some (sz, ag), .ptr i e off => match σ i with
    | some (.cells es _) => match es[e]? with
      | some cs => (ld cs off sz ag).map (·, .no)
      | none => none
    | _ => none
  | some (sz, ag), .cptr cs off => (ld cs off sz ag).map (·, .no)
  | _, _ => none

theorem load_ok {P : Program} {base : Nat} {F : Froz} {ι : Loc} {σ : Sto} {w : World} (hm : Mem P base F ι σ w) {T : TypeId} {a : PV} {x : Value} (ha : VR F ι a x) {v : PV} {act : SAct} (h : pLoad P σ T a = some (v, act)) :
    act = .no ∧ ∃ y, (Instr.loadAt T x).run P w = .ok y w ∧ VR F ι v y := by
  unfold pLoad at h
  split at h
  · rename_i sz ag i e off ht
    split at h
    · rename_i es wr hs
      split at h
      · rename_i cs hcs
        simp only [Option.map_eq_some_iff, Prod.mk.injEq] at h
        obtain ⟨v', hv', rfl, rfl⟩ := h
        refine ⟨rfl, ?_⟩
        cases ha with
        | ptr _ _ _ _ b T' s n hι hs0 =>
          obtain ⟨c, h1, h2, h3, h4, h5, _⟩ := hm.cellsAt hι hs0 hs
          obtain ⟨y, hy, hv⟩ := run_loadVar (P := P) (w := w) (b := b) (o := e * s) ht (fun j p hp => by
            obtain ⟨x, hx, hv⟩ := h5 e j cs p hcs hp
            exact ⟨x, by rw [cell_of_blk h1]; exact hx, hv⟩) hv'
          exact ⟨y, by simp [Instr.loadAt, Instr.sureAddr, hy], hv⟩
      · cases h
    · cases h
  · rename_i sz ag cs off ht
    simp only [Option.map_eq_some_iff, Prod.mk.injEq] at h
    obtain ⟨v', hv', rfl, rfl⟩ := h
    refine ⟨rfl, ?_⟩
    cases ha with
    | cptr _ _ _ b o xs hF hV =>
      obtain ⟨y, hy, hv⟩ := run_loadVar (P := P) (w := w) (b := b) (o := o) (F := F) (ι := ι) ht (fun j p hp => by
        have hj := (List.getElem?_eq_some_iff.1 hp).1
        exact ⟨xs j, hm.val _ _ _ (hF j hj), (hV j p hp).grow ⟨fun _ _ _ e => e, fun _ _ e => by cases e⟩⟩) hv'
      exact ⟨y, by simp [Instr.loadAt, Instr.sureAddr, hy], hv⟩
  · cases h

/-! ### store -/
def pStore (P : Program) (σ : Sto) (T : TypeId) (a x : PV) : Option (PV × SAct) :=
  match tyI P T, a with
  | some (sz, _), .ptr i e off => match σ i with
    | some (.cells es true) => match es[e]? with
      | some cs => if x.cells.length = sz ∧ off + sz ≤ cs.length ∧ x.cells.all PV.one = true then
          some (.tup [], .set i (.cells (es.set e (cs.take off ++ x.cells ++ cs.drop (off + sz))) true)) else none
      | none => none
    | _ => none
  | _, _ => none

/-- A value whose cells are seen. -/
def notAgg : PV → Bool
  | .v (.agg _) | .any => false
  | _ => true

theorem VR.cells1 {F : Froz} {ι : Loc} {p : PV} {x : Value} (h : VR F ι p x) : ∀ (j : Nat) (q : PV), [p][j]? = some q → VR F ι q ((#[x] : Array Value).getD j undef) := fun j q hq => by
  cases j with
  | zero => simp at hq; subst hq; exact h
  | succ j => simp at hq

theorem VR.cells {F : Froz} {ι : Loc} {p : PV} {x : Value} (h : VR F ι p x) (hp : notAgg p = true) : x.cells.size = p.cells.length ∧ ∀ j q, p.cells[j]? = some q → VR F ι q (x.cells.getD j undef) := by
  have h' := h
  cases h with
  | agg _ cs xs hl h => exact ⟨hl, h⟩
  | any => simp [notAgg] at hp
  | v _ x => cases x <;> first | (simp [notAgg] at hp; done) | exact ⟨rfl, h'.cells1⟩
  | _ => exact ⟨rfl, h'.cells1⟩

theorem VR.oneCell {F : Froz} {ι : Loc} {p : PV} {x : Value} (h : VR F ι p x) (hp : p.one = true) : x.oneCell' = true := by
  cases h <;> first | rfl | exact hp | (simp [PV.one] at hp; done)

theorem one_not_agg {p : PV} (h : p.cells.all PV.one = true) : notAgg p = true := by
  unfold notAgg
  split <;> simp_all [PV.cells, PV.one, Value.oneCell']

theorem get_splice {α : Type} (cs xs : List α) (off sz j : Nat) (hl : xs.length = sz) (hle : off + sz ≤ cs.length) :
    (cs.take off ++ xs ++ cs.drop (off + sz))[j]? = if off ≤ j ∧ j < off + sz then xs[j - off]? else cs[j]? := by
  have ht : (cs.take off).length = off := by simp; omega
  by_cases h1 : j < off
  · rw [if_neg (by omega), List.append_assoc, List.getElem?_append_left (by omega), List.getElem?_take, if_pos h1]
  · by_cases h2 : j < off + sz
    · rw [if_pos ⟨by omega, h2⟩, List.append_assoc, List.getElem?_append_right (by omega), ht, List.getElem?_append_left (by omega)]
    · rw [if_neg (by omega), List.getElem?_append_right (by simp [hl]; omega), List.getElem?_drop]
      congr 1
      simp [hl]
      omega

theorem store_ok {P : Program} {base : Nat} {F : Froz} {ι : Loc} {σ : Sto} {w : World} (hm : Mem P base F ι σ w) {T : TypeId} {a p : PV} {x y : Value} (ha : VR F ι a x) (hp : VR F ι p y) {v : PV} {act : SAct}
    (h : pStore P σ T a p = some (v, act)) : v = .tup [] ∧ ∃ w', (Instr.storeAt T x y).run P w = .ok () w' ∧ ∀ id, Mem P base F ι (act.app id σ) w' ∧ Below base w w' := by
  unfold pStore at h
  split at h
  · rename_i sz ag i e off ht
    split at h
    · rename_i es hs
      split at h
      · rename_i cs hcs
        split at h
        · rename_i hcond
          obtain ⟨hc1, hc2, hc3⟩ := hcond
          simp only [Option.some.injEq, Prod.mk.injEq] at h
          obtain ⟨rfl, rfl⟩ := h
          refine ⟨rfl, ?_⟩
          cases ha with
          | ptr _ _ _ _ b T' s n hι hs0 =>
            obtain ⟨c, h1, h2, h3, h4, h5, h6⟩ := hm.cellsAt hι hs0 hs
            obtain ⟨hy1, hy2⟩ := hp.cells (one_not_agg hc3)
            have hcl : cs.length = s := h4 cs (List.mem_of_getElem? hcs)
            have he : e < es.length := (List.getElem?_eq_some_iff.1 hcs).1
            have hbound : e * s + s ≤ n * s := by
              rw [← Nat.succ_mul]; exact Nat.mul_le_mul_right _ (by omega)
            have hyl : y.cells.toList.length = sz := by simp [hy1, hc1]
            have hone : ∀ u ∈ y.cells.toList, u.oneCell' = true := by
              intro u hu
              obtain ⟨j, hj, rfl⟩ := List.mem_iff_getElem.1 hu
              have hj' : j < p.cells.length := by rw [hc1, ← hyl]; exact hj
              have hv := hy2 j p.cells[j] (List.getElem?_eq_getElem hj')
              have hgd : y.cells.getD j undef = y.cells.toList[j] := by
                have hjs : j < y.cells.size := by simpa using hj
                simp [Array.getD, hjs]
              rw [hgd] at hv
              exact hv.oneCell (List.all_eq_true.1 hc3 _ (List.getElem_mem hj'))
            have hrun : (Instr.storeAt T (.pointer (some ⟨b, e * s + off, none⟩)) y).run P w = .ok () (putBlk w b (.cells (wrA c (e * s + off) y.cells.toList) T' (0, 0))) := by
              simp only [Instr.storeAt, Instr.sureAddr, Sem.run_bind, Sem.run_pure, Result.andThen_ok, storeVar, tyI_size ht]
              rw [if_neg (by simp only [ne_eq, Decidable.not_not]; rw [hy1, hc1])]
              have := run_storeCells (P := P) y.cells.toList w b (e * s + off) 0 c T' h1 (by rw [hyl, h2]; omega) hone
              simpa using this
            refine ⟨_, hrun, fun id => ?_⟩
            have hw := lt_of_blk h1
            refine hm.put hs hι hs0 _ _ ?_ ?_ ?_
            · intro k z hk
              exact absurd hk (by rw [h6 k]; simp)
            · refine ⟨_, putBlk_same w _ hw, by rw [size_wrA]; exact h2, by simpa using h3, ?_, ?_⟩
              · intro cs' hcs'
                rcases List.mem_or_eq_of_mem_set hcs' with hm' | rfl
                · exact h4 _ hm'
                · simp [hc1]; omega
              · intro i' j' cs' q hi' hj'
                have hspl := get_splice cs p.cells off sz j' hc1 hc2
                have hwr := get_wrA y.cells.toList c (e * s + off) (i' * s + j') (by rw [hyl, h2]; omega)
                rw [hyl] at hwr
                by_cases hie : e = i'
                · subst hie
                  rw [List.getElem?_set_self he] at hi'
                  injection hi' with hi'
                  subst hi'
                  rw [hspl] at hj'
                  by_cases hin : off ≤ j' ∧ j' < off + sz
                  · rw [if_pos hin] at hj'
                    rw [if_pos ⟨by omega, by omega⟩] at hwr
                    have hjj : e * s + j' - (e * s + off) = j' - off := by omega
                    rw [hjj] at hwr
                    have hv := hy2 _ _ hj'
                    have hlt : j' - off < y.cells.size := by rw [hy1, hc1]; omega
                    refine ⟨y.cells.getD (j' - off) undef, ?_, hv⟩
                    rw [hwr]
                    simp [Array.getD, hlt]
                  · rw [if_neg hin] at hj'
                    rw [if_neg (by omega)] at hwr
                    obtain ⟨z, hz, hv⟩ := h5 e j' cs q hcs hj'
                    exact ⟨z, by rw [hwr]; exact hz, hv⟩
                · rw [List.getElem?_set_ne hie] at hi'
                  obtain ⟨z, hz, hv⟩ := h5 i' j' cs' q hi' hj'
                  have hj2 : j' < s := by rw [← h4 cs' (List.mem_of_getElem? hi')]; exact (List.getElem?_eq_some_iff.1 hj').1
                  refine ⟨z, ?_, hv⟩
                  rw [hwr, if_neg]
                  · exact hz
                  · rintro ⟨ha, hb⟩
                    rcases Nat.lt_or_gt_of_ne hie with hlt | hlt
                    · have : (e + 1) * s ≤ i' * s := Nat.mul_le_mul_right _ hlt
                      rw [Nat.succ_mul] at this
                      omega
                    · have : (i' + 1) * s ≤ e * s := Nat.mul_le_mul_right _ hlt
                      rw [Nat.succ_mul] at this
                      omega
            · exact h6
        · cases h
      · cases h
    · cases h
  · cases h

end Go.PM
end

section
set_option linter.unusedSimpArgs false
set_option linter.unusedVariables false
set_option linter.constructorNameAsVariable false
/- More operations: what makes memory, and what only reckons with addresses. -/
namespace Go.PM
open Go Go.RowKit

theorem pureRun_bind {α β : Type} (P : Program) (x : Sem α) (f : α → Sem β) : pureRun P (x >>= f) = (pureRun P x).bind fun a => pureRun P (f a) := by
  show pureRun P (x.bind f) = _
  induction x with
  | pure a => rfl
  | program k ih => exact ih P
  | mark m k ih => exact ih
  | _ => rfl

/-! ### A literal's parts -/
def splice (cs : List PV) (off : Nat) (xs : List PV) : List PV := cs.take off ++ xs ++ cs.drop (off + xs.length)

def pfill (place : Nat → Option (Nat × Nat)) : List PV → List (Nat × PV) → Option (List PV)
  | cs, [] => some cs
  | cs, (i, v) :: rest => match place i with
    | some (off, sz) => if v.cells.length = sz ∧ off + sz ≤ cs.length then pfill place (splice cs off v.cells) rest else none
    | none => none

/-- Cell by cell. -/
def VRs (F : Froz) (ι : Loc) (cs : List PV) (xs : Array Value) : Prop := xs.size = cs.length ∧ ∀ (j : Nat) (p : PV), cs[j]? = some p → VR F ι p (xs.getD j undef)

theorem foldl_wrA (off : Nat) : ∀ (vs : List Value) (k : Nat) (c : Array Value),
    (vs.zipIdx k).foldl (fun (cs : Array Value) (x : Value × Nat) => cs.setIfInBounds (off + x.2) x.1) c = wrA c (off + k) vs
  | [], _, _ => rfl
  | v :: r, k, c => by
    simp only [List.zipIdx_cons, List.foldl_cons, wrA]
    rw [foldl_wrA off r (k + 1) _, Nat.add_assoc]

theorem VRs.splice {F : Froz} {ι : Loc} {cs : List PV} {xs : Array Value} (h : VRs F ι cs xs) {ps : List PV} {ys : Array Value} (k : VRs F ι ps ys) {off : Nat} (hle : off + ps.length ≤ cs.length) :
    VRs F ι (splice cs off ps) (wrA xs off ys.toList) := by
  have hyl : ys.toList.length = ps.length := by simp [k.1]
  refine ⟨by rw [size_wrA, h.1]; simp [PM.splice]; omega, fun j p hj => ?_⟩
  have hw := get_wrA ys.toList xs off j (by rw [hyl, h.1]; exact hle)
  rw [hyl] at hw
  have hs := get_splice cs ps off ps.length j rfl hle
  unfold PM.splice at hj
  rw [hs] at hj
  rw [Array.getD_eq_getD_getElem?, hw]
  by_cases hin : off ≤ j ∧ j < off + ps.length
  · rw [if_pos hin] at hj ⊢
    have := k.2 _ _ hj
    rw [Array.getD_eq_getD_getElem?] at this
    rw [Array.getElem?_toList]; exact this
  · rw [if_neg hin] at hj ⊢
    have := h.2 _ _ hj
    rwa [Array.getD_eq_getD_getElem?] at this

theorem fill_ok {F : Froz} {ι : Loc} {place : Nat → Option (Nat × Nat)} : ∀ {parts : List (Nat × PV)} {cs cs' : List PV} {xs : Array Value} {vals : List (Nat × Value)},
    VRs F ι cs xs → vals.map (·.1) = parts.map (·.1) → (∀ (j i : Nat) (p : PV), parts[j]? = some (i, p) → notAgg p = true ∧ ∃ x, vals[j]? = some (i, x) ∧ VR F ι p x) → pfill place cs parts = some cs' →
    ∃ xs', Instr.fill place xs vals = some xs' ∧ VRs F ι cs' xs'
  | [], cs, cs', xs, vals, h, hm, _, hf => by
    have : vals = [] := by simpa using hm
    subst this
    simp [pfill] at hf
    subst hf
    exact ⟨xs, rfl, h⟩
  | (i, p) :: rest, cs, cs', xs, vals, h, hm, hv, hf => by
    obtain ⟨hp, x, hx, hvr⟩ := hv 0 i p (by simp)
    cases vals with
    | nil => simp at hx
    | cons u vals =>
      simp at hx
      subst hx
      unfold pfill at hf
      split at hf
      · rename_i off sz hpl
        split at hf
        · rename_i hc
          obtain ⟨c1, c2⟩ := hc
          obtain ⟨k1, k2⟩ := hvr.cells hp
          have hsp : VRs F ι (splice cs off p.cells) (wrA xs off x.cells.toList) := h.splice ⟨k1, k2⟩ (by omega)
          obtain ⟨xs', hx', hv'⟩ := fill_ok (vals := vals) hsp (by simpa using hm) (fun j i' p' hj => by
            obtain ⟨a1, y, a2, a3⟩ := hv (j + 1) i' p' (by simpa using hj)
            exact ⟨a1, y, by simpa using a2, a3⟩) hf
          refine ⟨xs', ?_, hv'⟩
          unfold Instr.fill
          simp only [hpl]
          rw [if_neg (by simp [k1, c1, h.1]; omega)]
          have hfold := foldl_wrA off x.cells.toList 0 xs
          have : (x.cells.zipIdx.foldl (fun cs (y : Value × Nat) => cs.setIfInBounds (off + y.2) y.1) xs) = wrA xs off x.cells.toList := by
            rw [← Array.foldl_toList, Array.toList_zipIdx]
            exact hfold
          rw [this]
          exact hx'
        · cases hf
      · cases hf

/-- Where a struct's fields lie. -/
def plI (P : Program) (T : TypeId) : Option (Array (Nat × Nat)) :=
  match P.underlying T with
  | some (.struct fields) => pureRun P (fields.mapM fun f => do pure (f.offset, ← sizeOf f.type))
  | _ => none

def pBuild (P : Program) (T : TypeId) (parts : List (Nat × PV)) : Option (PV × SAct) :=
  match zrI P T, plI P T with
  | some zs, some pl => if parts.all (fun q => notAgg q.2) then (pfill (pl[·]?) (zs.map ofCell) parts).map fun cs => (.agg cs, .no) else none
  | _, _ => none

theorem VRs.ofCells (F : Froz) (ι : Loc) (xs : Array Value) : VRs F ι (xs.toList.map ofCell) xs :=
  ⟨by simp, fun j p h => by rw [getD_of_map h]; exact VR.ofCell _ _ _⟩

/-- Operands side by side. -/
def PartsR (F : Froz) (ι : Loc) (parts : List (Nat × PV)) (vals : List (Nat × Value)) : Prop :=
  vals.map (·.1) = parts.map (·.1) ∧ ∀ (j i : Nat) (p : PV), parts[j]? = some (i, p) → ∃ x, vals[j]? = some (i, x) ∧ VR F ι p x

theorem partsR_map {F : Froz} {ι : Loc} {t : Nat → PV} {a : Act} (h : ∀ i, VR F ι (t i) (a.tmps.getD i undef)) (ps : Array (Nat × Operand)) :
    PartsR F ι (ps.toList.map fun q => (q.1, ev t q.2)) ((ps.map fun (i, x) => (i, a.eval x)).toList) := by
  refine ⟨by simp, fun j i p hj => ?_⟩
  rw [List.getElem?_map] at hj
  obtain ⟨q, hq, he⟩ := Option.map_eq_some_iff.1 hj
  obtain ⟨qi, qx⟩ := q
  simp at he
  obtain ⟨rfl, rfl⟩ := he
  refine ⟨a.eval qx, ?_, VR.ev h qx⟩
  rw [Array.getElem?_toList] at hq
  simp [hq]

theorem build_ok {P : Program} {F : Froz} {ι : Loc} {w : World} {T : TypeId} {parts : List (Nat × PV)} {vals : Array (Nat × Value)} (hp : PartsR F ι parts vals.toList) {v : PV} {act : SAct}
    (h : pBuild P T parts = some (v, act)) : act = .no ∧ ∃ x, (Instr.build T vals).run P w = .ok x w ∧ VR F ι v x := by
  unfold pBuild at h
  split at h
  · rename_i zs pl hz hpl
    split at h
    · rename_i hna
      simp only [Option.map_eq_some_iff, Prod.mk.injEq] at h
      obtain ⟨cs, hcs, rfl, rfl⟩ := h
      refine ⟨rfl, ?_⟩
      obtain ⟨z, rfl, hzr⟩ := zrI_run (w := w) hz
      unfold plI at hpl
      split at hpl
      · rename_i fields hu
        obtain ⟨xs', hx', hv'⟩ := fill_ok (VRs.ofCells F ι z.cells) hp.1 (fun j i p hj => ⟨List.all_eq_true.1 hna _ (List.mem_of_getElem? hj), hp.2 j i p hj⟩) hcs
        refine ⟨.agg xs', ?_, .agg _ _ _ hv'.1 hv'.2⟩
        have h2 := pureRun_run hpl w
        simp only [Instr.build, Sem.run_bind, hzr, Result.andThen_ok, run_under hu]
        show Result.andThen (Sem.run P (fields.mapM fun f => do pure (f.offset, ← sizeOf f.type)) w) _ = _
        rw [h2]
        simp only [Result.andThen_ok, hx', Sem.run_pure]
      · cases hpl
    · cases h
  · cases h

/-! ### New blocks -/
theorem new_ok {P : Program} {base : Nat} {F : Froz} {ι : Loc} {σ : Sto} {w : World} (hm : Mem P base F ι σ w) {id : Id} (hf : ι id = none) (hs : σ id = none) {es : List (List PV)} {c : Array Value} {T : TypeId} {sz tot : Nat}
    (hsz : 0 < sz) (hT : szI P T = some sz) (htot : tot ≤ maxLen) (hc : c.size = tot * sz) (hl : es.length ≤ tot) (he : ∀ cs ∈ es, cs.length = sz)
    (hv : ∀ (i j : Nat) (cs : List PV) (p : PV), es[i]? = some cs → cs[j]? = some p → ∃ x, c[i * sz + j]? = some x ∧ VR F ι p x) {s : Sem Next} {x : Value} {v : PV}
    (hr : s.run P w = .ok (.value x) (w.alloc (.cells c T))) (hx : ∀ ι', ι' id = some (w.heap.size, T, sz, tot) → VR F ι' v x) :
    OpOK P base F ι id w s v (upd σ id (some (.cells es true))) := by
  have hB : BlkOK F (upd ι id (some (w.heap.size, T, sz, tot))) (w.alloc (.cells c T)) w.heap.size T sz tot (.cells es true) := by
    refine ⟨c, by show (w.heap.push _)[w.heap.size]? = _; simp, hc, hl, he, fun i j cs p hi hj => ?_⟩
    obtain ⟨x, h1, h2⟩ := hv i j cs p hi hj
    exact ⟨x, h1, h2.grow ⟨fun _ _ _ e => e, fun id' y e => by
      by_cases hi : id' = id
      · subst hi; rw [hf] at e; cases e
      · rw [upd_ne _ _ hi]; exact e⟩⟩
  obtain ⟨m1, g1, b1⟩ := hm.new hf hs (.cells c T) T sz tot hsz hT htot _ hB
  exact ⟨_, _, _, hr, .inl ⟨x, rfl, hx _ (upd_same _ _ _)⟩, m1, g1, b1, fun j hj => upd_ne _ _ hj⟩

def pAlloc (P : Program) (id : Id) (T : TypeId) : Option (PV × SAct) :=
  match zrI P T with
  | some zs => if 0 < zs.length ∧ szI P T = some zs.length then some (.ptr id 0 0, .new (.cells [zs.map ofCell] true)) else none
  | none => none

theorem ptr_new {F : Froz} {id : Id} {b T sz tot : Nat} (hsz : 0 < sz) : ∀ ι', ι' id = some (b, T, sz, tot) → VR F ι' (.ptr id 0 0) (.pointer (some ⟨b, 0, none⟩)) := fun ι' h => by
  have := VR.ptr (F := F) ι' id 0 0 b T sz tot h hsz
  simpa using this

theorem alloc_ok {P : Program} {base : Nat} {F : Froz} {ι : Loc} {σ : Sto} {w : World} (hm : Mem P base F ι σ w) {id : Id} (hf : ι id = none) (hs : σ id = none) {T : TypeId} {v : PV} {act : SAct}
    (h : pAlloc P id T = some (v, act)) : OpOK P base F ι id w (do pure (.value (← Instr.alloc T true (.tuple #[])))) v (act.app id σ) := by
  unfold pAlloc at h
  split at h
  · rename_i zs hz
    split at h
    · rename_i hpos
      obtain ⟨hpos, hT⟩ := hpos
      simp only [Option.some.injEq, Prod.mk.injEq] at h
      obtain ⟨rfl, rfl⟩ := h
      obtain ⟨z, rfl, hzr⟩ := zrI_run (w := w) hz
      refine new_ok (sz := z.cells.toList.length) (tot := 1) (c := z.cells) (T := T) hm hf hs hpos hT (by simp [maxLen]) (by simp) (by simp) (by simp) ?_ (x := .pointer (some ⟨w.heap.size, 0, none⟩)) ?_ (ptr_new hpos)
      · intro i j cs p hi hj
        have hi0 : i = 0 := by have := (List.getElem?_eq_some_iff.1 hi).1; simp at this; exact this
        subst hi0
        simp at hi
        subst hi
        have h1 := getD_of_map hj
        have hlt : j < z.cells.size := by have := (List.getElem?_eq_some_iff.1 hj).1; simpa using this
        have hg : z.cells.getD j undef = z.cells[j] := by simp [Array.getD, hlt]
        exact ⟨z.cells[j], by simp [hlt], by rw [h1, hg]; exact VR.ofCell _ _ _⟩
      · simp only [Instr.alloc, hzr, newVar, newRow, Sem.run_bind, Result.andThen_ok, Sem.run_pure, run_newObj]; rfl
    · cases h
  · cases h

def pBox (P : Program) (id : Id) (T : TypeId) (x : PV) : Option (PV × SAct) :=
  if 0 < x.cells.length ∧ notAgg x = true ∧ szI P T = some x.cells.length then some (.ptr id 0 0, .new (.cells [x.cells] true)) else none

theorem box_ok {P : Program} {base : Nat} {F : Froz} {ι : Loc} {σ : Sto} {w : World} (hm : Mem P base F ι σ w) {id : Id} (hf : ι id = none) (hs : σ id = none) {T : TypeId} {p : PV} {x : Value} (hp : VR F ι p x) {v : PV} {act : SAct}
    (h : pBox P id T p = some (v, act)) : OpOK P base F ι id w (do pure (.value (← Instr.box T x))) v (act.app id σ) := by
  unfold pBox at h
  split at h
  · rename_i hc
    obtain ⟨hpos, hna, hT⟩ := hc
    simp only [Option.some.injEq, Prod.mk.injEq] at h
    obtain ⟨rfl, rfl⟩ := h
    obtain ⟨h1, h2⟩ := hp.cells hna
    refine new_ok (sz := p.cells.length) (tot := 1) (c := x.cells) (T := T) hm hf hs hpos hT (by simp [maxLen]) (by simp [h1]) (by simp) (by simp) ?_ (x := .pointer (some ⟨w.heap.size, 0, none⟩)) ?_ (ptr_new hpos)
    · intro i j cs q hi hj
      have hi0 : i = 0 := by have := (List.getElem?_eq_some_iff.1 hi).1; simp at this; exact this
      subst hi0
      simp at hi
      subst hi
      have hlt : j < x.cells.size := by have := (List.getElem?_eq_some_iff.1 hj).1; omega
      have hg : x.cells.getD j undef = x.cells[j] := by simp [Array.getD, hlt]
      exact ⟨x.cells[j], by simp [hlt], by rw [← hg]; exact h2 j q hj⟩
    · simp only [Instr.box, newVar, newRow, Sem.run_bind, Result.andThen_ok, Sem.run_pure, run_newObj]; rfl
  · cases h

def chunk (n sz : Nat) (cs : List PV) : List (List PV) := (List.range n).map fun i => (cs.drop (i * sz)).take sz

theorem chunk_len (n sz : Nat) (cs : List PV) : (chunk n sz cs).length = n := by simp [chunk]
theorem chunk_get {n sz i : Nat} {cs r : List PV} (h : (chunk n sz cs)[i]? = some r) : i < n ∧ r = (cs.drop (i * sz)).take sz := by
  have hlt : i < n := by
    have := (List.getElem?_eq_some_iff.1 h).1
    rwa [chunk_len] at this
  refine ⟨hlt, ?_⟩
  unfold chunk at h
  rw [List.getElem?_map, List.getElem?_range hlt] at h
  simpa using h.symm
theorem chunk_sz {n sz : Nat} {cs : List PV} (hl : cs.length = n * sz) : ∀ r ∈ chunk n sz cs, r.length = sz := by
  intro r hr
  obtain ⟨i, hi⟩ := List.getElem?_of_mem hr
  obtain ⟨h1, rfl⟩ := chunk_get hi
  have : (i + 1) * sz ≤ n * sz := Nat.mul_le_mul_right _ h1
  rw [Nat.succ_mul] at this
  simp
  omega
theorem chunk_at {n sz i j : Nat} {cs r : List PV} {p : PV} (h : (chunk n sz cs)[i]? = some r) (hj : r[j]? = some p) : cs[i * sz + j]? = some p := by
  obtain ⟨h1, rfl⟩ := chunk_get h
  rw [List.getElem?_take] at hj
  split at hj
  · rwa [List.getElem?_drop] at hj
  · cases hj

def pBuildSlice (P : Program) (id : Id) (T : TypeId) (n : Nat) (parts : List (Nat × PV)) : Option (PV × SAct) :=
  match slI P T with
  | some (e, sz, _) => match zrI P e with
    | some zs => if 0 < sz ∧ zs.length = sz ∧ n * sz ≤ 16777216 ∧ parts.all (fun q => notAgg q.2) = true then
        (pfill (fun i => some (i * sz, sz)) ((List.replicate n (zs.map ofCell)).flatten) parts).map fun cs => (.own id e 0 n, .new (.cells (chunk n sz cs) true)) else none
    | none => none
  | none => none

theorem flatten_replicate_get {α : Type} (zs : List α) (n j : Nat) : (List.replicate n zs).flatten[j]? = if j < n * zs.length then zs[j % zs.length]? else none := by
  induction n generalizing j with
  | zero => simp
  | succ n ih =>
    rw [List.replicate_succ, List.flatten_cons]
    by_cases hj : j < zs.length
    · rw [List.getElem?_append_left hj, Nat.mod_eq_of_lt hj, if_pos]
      rw [Nat.succ_mul]; omega
    · rw [List.getElem?_append_right (by omega), ih]
      have hm : (j - zs.length) % zs.length = j % zs.length := by
        conv => rhs; rw [show j = (j - zs.length) + zs.length by omega]
        rw [Nat.add_mod_right]
      rw [hm, Nat.succ_mul]
      by_cases h2 : j < n * zs.length + zs.length
      · rw [if_pos h2, if_pos (by omega)]
      · rw [if_neg h2, if_neg (by omega)]

theorem zeros_VRs (F : Froz) (ι : Loc) (z : Array Value) (n sz : Nat) (hz : z.toList.length = sz) (hs : 0 < sz) :
    VRs F ι ((List.replicate n (z.toList.map ofCell)).flatten) ((Array.range (n * sz)).map (z[· % z.size]!)) := by
  have hz' : z.size = sz := by simpa using hz
  refine ⟨by simp [hz'], fun j p hj => ?_⟩
  rw [flatten_replicate_get] at hj
  split at hj
  · rename_i hlt
    simp only [List.length_map, Array.length_toList, hz'] at hlt hj
    have h1 := getD_of_map hj
    rw [Array.getD_eq_getD_getElem?]
    simp only [Array.getElem?_map, Array.getElem?_range, hlt, if_true, Option.map_some, Option.getD_some, hz']
    have hm : j % sz < z.size := by rw [hz']; exact Nat.mod_lt _ hs
    have : z[j % sz]! = z.getD (j % sz) undef := by
      rw [getElem!_pos z (j % sz) hm]; simp [Array.getD, hm]
    rw [this, h1]
    exact VR.ofCell _ _ _
  · cases hj

theorem flat_blk {F : Froz} {ι : Loc} {n sz : Nat} {cs : List PV} {c : Array Value} (hv : VRs F ι cs c) (i j : Nat) (r : List PV) (p : PV) (h : (chunk n sz cs)[i]? = some r) (hj : r[j]? = some p) : ∃ x, c[i * sz + j]? = some x ∧ VR F ι p x := by
  have h1 := chunk_at h hj
  have hlt : i * sz + j < c.size := by rw [hv.1]; exact (List.getElem?_eq_some_iff.1 h1).1
  have h2 := hv.2 _ _ h1
  have hg : c.getD (i * sz + j) undef = c[i * sz + j] := by simp [Array.getD, hlt]
  exact ⟨c[i * sz + j], by simp [hlt], by rw [← hg]; exact h2⟩

theorem pfill_len {place : Nat → Option (Nat × Nat)} : ∀ {parts : List (Nat × PV)} {cs cs' : List PV}, pfill place cs parts = some cs' → cs'.length = cs.length
  | [], cs, cs', h => by simp [pfill] at h; subst h; rfl
  | (i, v) :: rest, cs, cs', h => by
    unfold pfill at h
    split at h
    · split at h
      · rename_i hc
        rw [pfill_len h]
        simp [splice]
        omega
      · cases h
    · cases h

theorem own_new {F : Froz} {id : Id} {b e sz tot len : Nat} (hsz : 0 < sz) (hl : len ≤ tot) : ∀ ι', ι' id = some (b, e, sz, tot) → VR F ι' (.own id e 0 len) (.slice (some ⟨b, 0, none⟩) len tot) := fun ι' h => by
  have := VR.own (F := F) ι' id e 0 len b sz tot tot h hsz (by omega) hl
  simpa using this

theorem buildSlice_ok {P : Program} {base : Nat} {F : Froz} {ι : Loc} {σ : Sto} {w : World} (hm : Mem P base F ι σ w) {id : Id} (hf : ι id = none) (hs : σ id = none) {T : TypeId} {n : Nat} {parts : List (Nat × PV)} {vals : Array (Nat × Value)}
    (hp : PartsR F ι parts vals.toList) {v : PV} {act : SAct} (h : pBuildSlice P id T n parts = some (v, act)) : OpOK P base F ι id w (do pure (.value (← Instr.buildSlice T n vals))) v (act.app id σ) := by
  unfold pBuildSlice at h
  split at h
  · rename_i e sz by_ hsl
    split at h
    · rename_i zs hz
      split at h
      · rename_i hc
        obtain ⟨hsz, hzl, hle, hna⟩ := hc
        simp only [Option.map_eq_some_iff, Prod.mk.injEq] at h
        obtain ⟨cs, hcs, rfl, rfl⟩ := h
        obtain ⟨z, rfl, hzr⟩ := zrI_run (w := w) hz
        obtain ⟨hu, i, hi, hi1, hi2⟩ := slI_spec hsl
        obtain ⟨xs', hx', hv'⟩ := fill_ok (zeros_VRs F ι z.cells n sz hzl hsz) hp.1 (fun j i p hj => ⟨List.all_eq_true.1 hna _ (List.mem_of_getElem? hj), hp.2 j i p hj⟩) hcs
        have hlen : cs.length = n * sz := by rw [pfill_len hcs]; simp at hzl; simp [hzl]
        refine new_ok (sz := sz) (tot := n) (c := xs') (T := e) hm hf hs hsz (by simp [szI, hi, hi1]) (by simp only [maxLen]; have := Nat.le_mul_of_pos_right n hsz; omega) (by rw [hv'.1, hlen]) (by simp [chunk_len]) (chunk_sz hlen) (fun i j r p h1 h2 => flat_blk hv' i j r p h1 h2) (x := .slice (some ⟨w.heap.size, 0, none⟩) n n) ?_ (own_new hsz (Nat.le_refl _))
        simp only [Instr.buildSlice, Sem.run_bind, run_under hu, Result.andThen_ok, sizeOf, run_info hi, Sem.run_pure, hi1]
        rw [if_neg (by omega)]
        by_cases hn : n * sz = 0
        · rw [if_pos hn]
          have hr0 : (Array.range (n * sz)).map (z.cells[· % z.cells.size]!) = #[] := by rw [hn]; simp
          have hr1 : (Array.range (n * sz)).map ((#[] : Array Value)[· % (#[] : Array Value).size]!) = #[] := by rw [hn]; simp
          rw [hr0] at hx'
          simp only [Sem.run_pure, Result.andThen_ok, hr1, hx', newRow, Sem.run_bind, run_newObj, World.alloc]
        · rw [if_neg hn]
          simp only [Sem.run_bind, hzr, Result.andThen_ok, Sem.run_pure, hx', newRow, run_newObj, World.alloc]
      · cases h
    · cases h
  · cases h

end Go.PM
end

section
set_option linter.unusedSimpArgs false
set_option linter.unusedVariables false
set_option linter.constructorNameAsVariable false
/- Operations that only reckon with values and addresses; make. -/
namespace Go.PM
open Go Go.RowKit

/-! ### fieldAddr, field, extract -/
theorem fdI_spec {P : Program} {S : TypeId} {f o sz : Nat} {ag : Bool} (h : fdI P S f = some (o, sz, ag)) : ∃ fs fd, P.underlying S = some (.struct fs) ∧ fs[f]? = some fd ∧ fd.offset = o ∧ tyI P fd.type = some (sz, ag) := by
  unfold fdI at h
  split at h
  · rename_i fs hu
    split at h
    · rename_i fd hf
      simp only [Option.map_eq_some_iff, Prod.mk.injEq] at h
      obtain ⟨⟨s, a⟩, h1, h2, h3, h4⟩ := h
      subst h3; subst h4; exact ⟨fs, fd, hu, hf, h2, h1⟩
    · cases h
  · cases h

def pFieldAddr (P : Program) (S : TypeId) (a : PV) (f : Nat) : Option PV :=
  match fdI P S f, a with
  | some (o, sz, _), .ptr i e off => if 0 < sz then some (.ptr i e (off + o)) else none
  | some (o, sz, _), .cptr cs off => if 0 < sz then some (.cptr cs (off + o)) else none
  | _, _ => none

theorem fieldAddr_ok {P : Program} {F : Froz} {ι : Loc} {w : World} {S : TypeId} {a : PV} {f : Nat} {x : Value} (ha : VR F ι a x) {v : PV} (h : pFieldAddr P S a f = some v) : ∃ y, (Instr.fieldAt S x f).run P w = .ok y w ∧ VR F ι v y := by
  unfold pFieldAddr at h
  split at h
  · rename_i o sz ag i e off hfd
    split at h
    · rename_i hs
      simp at h; subst h
      obtain ⟨fs, fd, hu, hf, ho, hty⟩ := fdI_spec hfd
      cases ha with
      | ptr _ _ _ _ b T s n hι hs0 =>
        refine ⟨.pointer (some ⟨b, e * s + off + o, none⟩), ?_, by rw [Nat.add_assoc]; exact .ptr _ _ _ _ _ _ _ _ hι hs0⟩
        simp only [Instr.fieldAt, Sem.run_bind, run_under hu, Result.andThen_ok, hf, Instr.sureAddr, Sem.run_pure, fieldPlace, tyI_size hty]
        rw [if_neg (by omega)]
        simp [add_at, ho]
    · cases h
  · rename_i o sz ag cs off hfd
    split at h
    · rename_i hs
      simp at h; subst h
      obtain ⟨fs, fd, hu, hf, ho, hty⟩ := fdI_spec hfd
      cases ha with
      | cptr _ _ _ b o' xs hF hV =>
        refine ⟨.pointer (some ⟨b, o' + off + o, none⟩), ?_, by rw [Nat.add_assoc]; exact .cptr _ _ _ _ _ _ hF hV⟩
        simp only [Instr.fieldAt, Sem.run_bind, run_under hu, Result.andThen_ok, hf, Instr.sureAddr, Sem.run_pure, fieldPlace, tyI_size hty]
        rw [if_neg (by omega)]
        simp [add_at, ho]
    · cases h
  · cases h

def pField (P : Program) (S : TypeId) (a : PV) (f : Nat) : Option PV :=
  match fdI P S f, a with
  | some (o, sz, ag), .agg cs => ld cs o sz ag
  | _, _ => none

theorem field_ok {P : Program} {F : Froz} {ι : Loc} {w : World} {S : TypeId} {a : PV} {f : Nat} {x : Value} (ha : VR F ι a x) {v : PV} (h : pField P S a f = some v) : ∃ y, (Instr.field S x f).run P w = .ok y w ∧ VR F ι v y := by
  unfold pField at h
  split at h
  · rename_i o sz ag cs hfd
    obtain ⟨fs, fd, hu, hf, ho, hty⟩ := fdI_spec hfd
    cases ha with
    | agg _ _ xs hl hv =>
      unfold ld at h
      cases ag with
      | false =>
        simp only [Bool.false_eq_true, if_false] at h
        have hlt : o < xs.size := by rw [hl]; exact (List.getElem?_eq_some_iff.1 h).1
        have h2 := hv o v h
        have hg : xs.getD o undef = xs[o] := by simp [Array.getD, hlt]
        refine ⟨xs[o], ?_, by rw [← hg]; exact h2⟩
        simp [Instr.field, run_under hu, hf, part, tyI_agg hty, asAgg, ho, hlt]
      | true =>
        simp only [if_true] at h
        split at h
        · rename_i hle
          simp at h; subst h
          refine ⟨.agg (xs.extract o (o + sz)), ?_, .agg _ _ _ (by simp [hl]; omega) fun j p hj => ?_⟩
          · simp [Instr.field, run_under hu, hf, part, tyI_agg hty, asAgg, ho, tyI_size hty]
          · rw [List.getElem?_take] at hj
            split at hj
            · rename_i hjs
              rw [List.getElem?_drop] at hj
              have h2 := hv _ _ hj
              rw [Array.getD_eq_getD_getElem?] at h2 ⊢
              rw [Array.getElem?_extract]
              have : j < min (o + sz) xs.size - o := by omega
              rw [if_pos this]
              exact h2
            · cases hj
        · cases h
  · cases h

theorem extract_ok {P : Program} {F : Froz} {ι : Loc} {w : World} {cs : List PV} {k : Nat} {x : Value} (ha : VR F ι (.tup cs) x) {v : PV} (h : cs[k]? = some v) : ∃ y, (Instr.extract x k).run P w = .ok y w ∧ VR F ι v y := by
  cases ha with
  | tup _ _ xs hl hv =>
    have hlt : k < xs.size := by rw [hl]; exact (List.getElem?_eq_some_iff.1 h).1
    have h2 := hv k v h
    have hg : xs.getD k undef = xs[k] := by simp [Array.getD, hlt]
    exact ⟨xs[k], by simp [Instr.extract, hlt], by rw [← hg]; exact h2⟩

/-! ### indexAddr -/
def pIndexAddr (P : Program) (T : TypeId) (a ix : PV) : Option PV :=
  match slI P T, a, ix with
  | some (_, sz, _), .sl es, .v (.int _ i) => if 0 ≤ i then match es[i.toNat]? with
    | some cs => if es.all (fun c => c.length == sz) then some (.cptr cs 0) else none
    | none => none
    else none
  | some (e, _, _), .own id e' off len, .v (.int _ i) => if 0 ≤ i ∧ i < len ∧ e = e' then some (.ptr id (off + i.toNat) 0) else none
  | _, _, _ => none

theorem indexAddr_ok {P : Program} {base : Nat} {F : Froz} {ι : Loc} {σ : Sto} {w : World} (hm : Mem P base F ι σ w) {T : TypeId} {a ix : PV} {x y : Value} (ha : VR F ι a x) (hi : VR F ι ix y) {v : PV} (h : pIndexAddr P T a ix = some v) :
    ∃ z, (Instr.indexAt T x y).run P w = .ok z w ∧ VR F ι v z := by
  unfold pIndexAddr at h
  split at h
  · rename_i e sz by_ es k i hsl
    obtain ⟨hu, inf, hinf, hi1, hi2⟩ := slI_spec hsl
    cases hi with
    | v =>
      split at h
      · rename_i h0
        split at h
        · rename_i cs hcs
          split at h
          · rename_i hall
            simp at h; subst h
            have hlt := (List.getElem?_eq_some_iff.1 hcs).1
            cases ha with
            | slNil => simp at hlt
            | slE => simp at hlt
            | sl _ _ b off sz' cap xs hn hs hF hV =>
              have hsz : sz' = sz := by
                rw [← hs cs (List.mem_of_getElem? hcs)]
                simpa using List.all_eq_true.1 hall cs (List.mem_of_getElem? hcs)
              subst hsz
              refine ⟨.pointer (some ⟨b, off + i.toNat * sz' + 0, none⟩), ?_, ?_⟩
              · simp only [Instr.indexAt, asIntOf, Sem.run_bind, Sem.run_pure, Result.andThen_ok, run_under hu]
                rw [Sem.run_ite, if_pos ⟨h0, by omega⟩]
                simp [sizeOf, run_info hinf, hi1, add_at]
              · have hcl : cs.length = sz' := hs cs (List.mem_of_getElem? hcs)
                exact .cptr _ cs 0 b _ (fun j => xs i.toNat j) (fun j hj => hF _ _ hlt (by omega)) (fun j p hp => hV _ _ _ _ hcs hp)
          · cases h
        · cases h
      · cases h
  · rename_i e sz by_ id e' off len k i hsl
    obtain ⟨hu, inf, hinf, hi1, hi2⟩ := slI_spec hsl
    cases hi with
    | v =>
      split at h
      · rename_i hc
        obtain ⟨h0, h1, rfl⟩ := hc
        simp at h; subst h
        cases ha with
        | ownNil => omega
        | ownE => omega
        | own _ _ _ _ _ b sz' tot cap hι hs0 hc hl =>
          have hsz : sz' = sz := by
            have := (hm.loc _ _ _ _ _ hι hs0).2.2.2.1
            simp [szI, hinf, hi1] at this
            exact this.symm
          subst hsz
          refine ⟨.pointer (some ⟨b, (off + i.toNat) * sz' + 0, none⟩), ?_, .ptr _ _ _ _ _ _ _ _ hι hs0⟩
          simp only [Instr.indexAt, asIntOf, Sem.run_bind, Sem.run_pure, Result.andThen_ok, run_under hu]
          rw [Sem.run_ite, if_pos ⟨h0, h1⟩]
          simp [sizeOf, run_info hinf, hi1, add_at, Nat.add_mul]
      · cases h
  · cases h

/-! ### slice -/
/-- A bound: the default, or a number from 0 to 'y'. -/
def pBound (p : Option PV) (dflt y : Nat) : Option Nat :=
  match p with
  | none => some dflt
  | some (.v (.int _ n)) => if 0 ≤ n ∧ n ≤ y then some n.toNat else none
  | _ => none

def OptR (F : Froz) (ι : Loc) (p : Option PV) (x : Option Value) : Prop :=
  match p, x with
  | none, none => True
  | some p, some x => VR F ι p x
  | _, _ => False

theorem bound_ok {P : Program} {F : Froz} {ι : Loc} {w : World} {p : PV} {x : Value} (h : VR F ι p x) {dflt y y' r : Nat} {code : BoundsCode} (hb : pBound (some p) dflt y = some r) (hy : y ≤ y') : (Instr.sliceBound x y' code).run P w = .ok r w ∧ r ≤ y := by
  unfold pBound at hb
  split at hb
  · rename_i he; cases he
  · rename_i k n he
    injection he with he
    subst he
    cases h with
    | v =>
      split at hb
      · rename_i hc
        simp at hb
        subst hb
        refine ⟨?_, by omega⟩
        simp only [Instr.sliceBound, asIntOf, Sem.run_bind, Sem.run_pure, Result.andThen_ok]
        rw [Sem.run_ite, if_pos ⟨hc.1, by omega⟩]
        rfl
      · cases hb
  · cases hb

/-- Low and high of a slice of length L. -/
def pBounds (L : Nat) (lo hi : Option PV) : Option (Nat × Nat) :=
  match pBound hi L L with
  | some h => match pBound lo 0 h with
    | some l => some (l, h)
    | none => none
  | none => none

theorem bounds_ok {P : Program} {F : Froz} {ι : Loc} {w : World} {L cap : Nat} (hcap : L ≤ cap) {lo hi : Option PV} {xlo xhi : Option Value} (hlo : OptR F ι lo xlo) (hhi : OptR F ι hi xhi) {l h : Nat} (hb : pBounds L lo hi = some (l, h)) :
    (Instr.sliceBounds true L cap xlo xhi none).run P w = .ok (l, h, cap) w ∧ l ≤ h ∧ h ≤ L := by
  unfold pBounds at hb
  split at hb
  · rename_i h' hh
    split at hb
    · rename_i l' hl
      simp at hb
      obtain ⟨rfl, rfl⟩ := hb
      cases hi with
      | none =>
        cases xhi with
        | some y => exact hhi.elim
        | none =>
          simp [pBound] at hh
          subst hh
          cases lo with
          | none =>
            cases xlo with
            | some y => exact hlo.elim
            | none =>
              simp [pBound] at hl
              subst hl
              exact ⟨by simp [Instr.sliceBounds], Nat.zero_le _, Nat.le_refl _⟩
          | some p =>
            cases xlo with
            | none => exact hlo.elim
            | some y =>
              obtain ⟨h1, h2⟩ := bound_ok (P := P) (w := w) (code := .sliceB) (show VR F ι p y from hlo) hl (Nat.le_refl _)
              exact ⟨by simp [Instr.sliceBounds, h1], h2, Nat.le_refl _⟩
      | some q =>
        cases xhi with
        | none => exact hhi.elim
        | some z =>
          obtain ⟨g1, g2⟩ := bound_ok (P := P) (w := w) (code := .sliceAcap) (show VR F ι q z from hhi) hh hcap
          cases lo with
          | none =>
            cases xlo with
            | some y => exact hlo.elim
            | none =>
              simp [pBound] at hl
              subst hl
              exact ⟨by simp [Instr.sliceBounds, g1], Nat.zero_le _, g2⟩
          | some p =>
            cases xlo with
            | none => exact hlo.elim
            | some y =>
              obtain ⟨h1, h2⟩ := bound_ok (P := P) (w := w) (code := .sliceB) (show VR F ι p y from hlo) hl (Nat.le_refl _)
              exact ⟨by simp [Instr.sliceBounds, g1, h1], h2, g2⟩
    · cases hb
  · cases hb

def pSlice (P : Program) (T : TypeId) (x : PV) (lo hi mx : Option PV) : Option PV :=
  match slI P T, x, mx with
  | some (_, sz, _), .sl es, none => match pBounds es.length lo hi with
    | some (l, h) => if es.all (fun c => c.length == sz) then some (.sl ((es.drop l).take (h - l))) else none
    | none => none
  | some (_, _, _), .nilS, none => match pBounds 0 lo hi with
    | some _ => some .nilS
    | none => none
  | some (e, _, _), .own id e' off len, none => if e = e' then match pBounds len lo hi with
    | some (l, h) => some (.own id e (off + l) (h - l))
    | none => none
    else none
  | _, _, _ => none

theorem sl_sub {F : Froz} {ι : Loc} {es : List (List PV)} {b off sz : Nat} {xs : Nat → Nat → Value} (hs : ∀ cs ∈ es, cs.length = sz)
    (hF : ∀ i j, i < es.length → j < sz → F b (off + i * sz + j) = some (xs i j))
    (hV : ∀ (i j : Nat) (cs : List PV) (p : PV), es[i]? = some cs → cs[j]? = some p → VR F noLoc p (xs i j)) {l h o' cap' : Nat} (hl : l ≤ h) (hh : h ≤ es.length) (ho : h - l ≠ 0 → o' = off + l * sz) (hc : h - l ≤ cap') :
    VR F ι (.sl ((es.drop l).take (h - l))) (.slice (some ⟨b, o', none⟩) (h - l) cap') := by
  have hlen : ((es.drop l).take (h - l)).length = h - l := by simp; omega
  have key := VR.sl (F := F) ι ((es.drop l).take (h - l)) b o' sz cap' (fun i j => xs (l + i) j) (by rw [hlen]; exact hc) (fun cs hcs => hs cs (List.mem_of_mem_drop (List.mem_of_mem_take hcs)))
    (fun i j hi hj => by
      rw [hlen] at hi
      have := hF (l + i) j (by omega) hj
      rw [ho (by omega), Nat.add_assoc off, ← Nat.add_mul]
      exact this)
    (fun i j cs p h1 h2 => by
      rw [List.getElem?_take] at h1
      split at h1
      · rw [List.getElem?_drop] at h1
        exact hV _ _ _ _ h1 h2
      · cases h1)
  rw [hlen] at key
  exact key

theorem slice_ok {P : Program} {base : Nat} {F : Froz} {ι : Loc} {σ : Sto} {w : World} (hm : Mem P base F ι σ w) {T : TypeId} {a : PV} {x : Value} (ha : VR F ι a x) {lo hi mx : Option PV} {xlo xhi xmx : Option Value} (hlo : OptR F ι lo xlo) (hhi : OptR F ι hi xhi)
    (hmx : OptR F ι mx xmx) {v : PV} (h : pSlice P T a lo hi mx = some v) : ∃ y, (Instr.sliceAt T x xlo xhi xmx).run P w = .ok y w ∧ VR F ι v y := by
  have hsz : ∀ {e sz by_ : Nat}, slI P T = some (e, sz, by_) → ∀ (A : Option Addr) (n cap l h' : Nat), (Instr.sliceBounds true n cap xlo xhi none).run P w = .ok (l, h', cap) w →
      (Instr.sliceAt T (.slice A n cap) xlo xhi none).run P w = .ok (.slice (if cap = l then A else A.map (·.add (l * sz))) (h' - l) (cap - l)) w := by
    intro e sz by_ hsl A n cap l h' hb
    obtain ⟨hu, inf, hinf, hi1, hi2⟩ := slI_spec hsl
    simp [Instr.sliceAt, Instr.slice, run_under hu, hb, sizeOf, run_info hinf, hi1]
  unfold pSlice at h
  split at h
  · rename_i e sz by_ es hsl
    cases xmx with
    | some y => exact hmx.elim
    | none =>
      split at h
      · rename_i l h' hb
        split at h
        · rename_i hall
          simp at h; subst h
          cases ha with
          | slNil =>
            obtain ⟨h1, h2, h3⟩ := bounds_ok (P := P) (w := w) (cap := 0) (Nat.le_refl _) hlo hhi hb
            refine ⟨_, hsz hsl _ _ _ _ _ h1, ?_⟩
            simp at h3
            subst h3
            have : l = 0 := by omega
            subst this
            exact .slNil _
          | slE _ A cap =>
            obtain ⟨h1, h2, h3⟩ := bounds_ok (P := P) (w := w) (cap := cap) (Nat.zero_le _) hlo hhi hb
            refine ⟨_, hsz hsl _ _ _ _ _ h1, ?_⟩
            simp at h3
            subst h3
            have : l = 0 := by omega
            subst this
            simp only [List.drop_nil, List.take_nil, Nat.sub_self]
            split
            · exact .slE _ _ _
            · simp only [Option.map_some]
              exact .slE _ _ _
          | sl _ _ b off sz' cap xs hn hs hF hV =>
            obtain ⟨h1, h2, h3⟩ := bounds_ok (P := P) (w := w) hn hlo hhi hb
            refine ⟨_, hsz hsl _ _ _ _ _ h1, ?_⟩
            have hsz' : es ≠ [] → sz' = sz := by
              intro hne
              obtain ⟨c, hc⟩ := List.exists_mem_of_ne_nil es hne
              rw [← hs c hc]
              simpa using List.all_eq_true.1 hall c hc
            by_cases hcl : cap = l
            · rw [if_pos hcl]
              exact sl_sub hs hF hV h2 h3 (by omega) (by omega)
            · rw [if_neg hcl]
              simp only [Option.map_some, add_at]
              refine sl_sub hs hF hV h2 h3 (fun hne => ?_) (by omega)
              rw [hsz' (by intro he; rw [he] at h3; simp at h3; omega)]
        · cases h
      · cases h
  · rename_i e sz by_ hsl
    cases xmx with
    | some y => exact hmx.elim
    | none =>
      split at h
      · rename_i r hb
        obtain ⟨l, h'⟩ := r
        simp at h; subst h
        cases ha with
        | nilS =>
          obtain ⟨h1, h2, h3⟩ := bounds_ok (P := P) (w := w) (cap := 0) (Nat.le_refl _) hlo hhi hb
          refine ⟨_, hsz hsl _ _ _ _ _ h1, ?_⟩
          have h0 : h' = 0 := by omega
          subst h0
          have : l = 0 := by omega
          subst this
          exact .nilS _
      · cases h
  · rename_i e sz by_ id e' off len hsl
    cases xmx with
    | some y => exact hmx.elim
    | none =>
      split at h
      · rename_i hee
        subst hee
        split at h
        · rename_i l h' hb
          simp at h; subst h
          obtain ⟨hu, inf, hinf, hi1, hi2⟩ := slI_spec hsl
          cases ha with
          | ownNil _ _ _ hι =>
            obtain ⟨h1, h2, h3⟩ := bounds_ok (P := P) (w := w) (cap := 0) (Nat.le_refl _) hlo hhi hb
            refine ⟨_, hsz hsl _ _ _ _ _ h1, ?_⟩
            have h0 : h' = 0 := by omega
            subst h0
            have : l = 0 := by omega
            subst this
            exact .ownNil _ _ _ hι
          | ownE _ _ _ _ b o b' sz' tot hι hpos =>
            obtain ⟨h1, h2, h3⟩ := bounds_ok (P := P) (w := w) (cap := 0) (Nat.le_refl _) hlo hhi hb
            refine ⟨_, hsz hsl _ _ _ _ _ h1, ?_⟩
            have h0 : h' = 0 := by omega
            subst h0
            have : l = 0 := by omega
            subst this
            exact .ownE _ _ _ _ _ _ _ _ _ hι hpos
          | own _ _ _ _ _ b sz' tot cap hι hs0 hc hl =>
            obtain ⟨h1, h2, h3⟩ := bounds_ok (P := P) (w := w) hl hlo hhi hb
            refine ⟨_, hsz hsl _ _ _ _ _ h1, ?_⟩
            have hszz : sz' = sz := by
              have := (hm.loc _ _ _ _ _ hι hs0).2.2.2.1
              simp [szI, hinf, hi1] at this
              exact this.symm
            subst hszz
            by_cases hcl : cap = l
            · rw [if_pos hcl]
              have e1 : h' - l = 0 := by omega
              have e2 : cap - l = 0 := by omega
              rw [e1, e2]
              by_cases hz : off + l = 0
              · have h1 : off = 0 := by omega
                have h2 : l = 0 := by omega
                subst h1; subst h2
                exact .own _ _ _ _ _ _ _ _ _ hι hs0 (by omega) (by omega)
              · exact .ownE _ _ _ _ _ _ _ _ _ hι (by omega)
            · rw [if_neg hcl]
              simp only [Option.map_some, add_at]
              rw [← Nat.add_mul]
              exact .own _ _ _ _ _ _ _ _ _ hι hs0 (by omega) (by omega)
        · cases h
      · cases h
  · cases h

end Go.PM
end

section
set_option linter.unusedSimpArgs false
set_option linter.unusedVariables false
set_option linter.constructorNameAsVariable false
/- make, append, copy, clear, len. -/
namespace Go.PM
open Go Go.RowKit

/-! ### make([]T, n, c) -/
def pMakeSlice (P : Program) (id : Id) (T : TypeId) (l c : PV) : Option (PV × SAct) :=
  match slI P T, l, c with
  | some (e, sz, by_), .v (.int _ n), .v (.int _ m) => match zrI P e with
    | some zs => if 0 < sz ∧ zs.length = sz ∧ 0 ≤ n ∧ n ≤ m ∧ m ≤ 140737488355328 ∧ by_ * m ≤ 140737488355328 then
        some (.own id e 0 n.toNat, .new (.cells (List.replicate n.toNat (zs.map ofCell)) true)) else none
    | none => none
  | _, _, _ => none

theorem makeSlice_ok {P : Program} {base : Nat} {F : Froz} {ι : Loc} {σ : Sto} {w : World} (hm : Mem P base F ι σ w) {id : Id} (hf : ι id = none) (hs : σ id = none) {T : TypeId} {l c : PV} {x y : Value} (hl : VR F ι l x) (hc : VR F ι c y) {v : PV} {act : SAct}
    (h : pMakeSlice P id T l c = some (v, act)) : OpOK P base F ι id w (do pure (.value (← Instr.makeSlice T x y))) v (act.app id σ) := by
  unfold pMakeSlice at h
  split at h
  · rename_i e sz by_ k n k' m hsl
    split at h
    · rename_i zs hz
      split at h
      · rename_i hcond
        obtain ⟨hsz, hzl, h0, hnm, hm1, hm2⟩ := hcond
        simp only [Option.some.injEq, Prod.mk.injEq] at h
        obtain ⟨rfl, rfl⟩ := h
        cases hl; cases hc
        obtain ⟨z, rfl, hzr⟩ := zrI_run (w := w) hz
        obtain ⟨hu, inf, hinf, hi1, hi2⟩ := slI_spec hsl
        have hzs : z.cells.size = sz := by simpa using hzl
        refine new_ok (sz := sz) (tot := m.toNat) (c := (Array.range (m.toNat * sz)).map (z.cells[· % z.cells.size]!)) (T := e) hm hf hs hsz (by simp [szI, hinf, hi1]) (by simp only [maxLen]; omega) (by simp) (by simp; omega)
          (by intro cs hcs; rw [List.eq_of_mem_replicate hcs]; simpa using hzs) ?_ (x := .slice (some ⟨w.heap.size, 0, none⟩) n.toNat m.toNat) ?_ (own_new hsz (by omega))
        · intro i j cs p hi hj
          have hlt : i < n.toNat := by have := (List.getElem?_eq_some_iff.1 hi).1; simpa using this
          have hcs : cs = z.cells.toList.map ofCell := List.eq_of_mem_replicate (List.mem_of_getElem? hi)
          subst hcs
          have h1 := getD_of_map hj
          have hjs : j < sz := by have := (List.getElem?_eq_some_iff.1 hj).1; simp at this; omega
          have hb : i * sz + j < m.toNat * sz := by
            have : (i + 1) * sz ≤ m.toNat * sz := Nat.mul_le_mul_right _ (by omega)
            rw [Nat.succ_mul] at this; omega
          refine ⟨z.cells.getD j undef, ?_, by rw [h1]; exact VR.ofCell _ _ _⟩
          simp only [Array.getElem?_map, Array.getElem?_range, hb, if_true, Option.map_some, hzs]
          have hmod : (i * sz + j) % sz = j := by rw [Nat.mul_comm, Nat.mul_add_mod, Nat.mod_eq_of_lt hjs]
          rw [hmod, getElem!_pos z.cells j (by omega)]
          simp [Array.getD, hzs, hjs]
        · obtain ⟨i0, hi0, hz0⟩ : ∃ i0, P.info? e = some i0 ∧ i0.zero = some z := by
            simp only [zeroValue, Sem.run_bind, run_info hinf, Result.andThen_ok] at hzr
            refine ⟨inf, hinf, ?_⟩
            cases hiz : inf.zero with
            | none => rw [hiz] at hzr; simp at hzr
            | some z' => rw [hiz] at hzr; simp at hzr; rw [hzr]
          rw [hinf] at hi0
          injection hi0 with hi0
          subst hi0
          have hr := run_make (P := P) w T e inf z hu hinf hz0 k k' n m h0 hnm (by rw [hi2]; omega) (by omega)
          rw [hi1] at hr
          simp only [Sem.run_bind, hr, Result.andThen_ok, Sem.run_pure]
          rfl
      · cases h
    · cases h
  · cases h

/-! ### The elements of a slice -/
def elemsOf (σ : Sto) : PV → Option (List (List PV))
  | .nilS => some []
  | .sl es => some es
  | .own id _ off len => match σ id with
    | some (.cells es _) => if off + len ≤ es.length then some ((es.drop off).take len) else none
    | _ => none
  | _ => none

theorem elems_cells {P : Program} {base : Nat} {F : Froz} {ι : Loc} {σ : Sto} {w : World} (hm : Mem P base F ι σ w) {a : PV} {x : Value} (ha : VR F ι a x) {es : List (List PV)} (he : elemsOf σ a = some es) {sz : Nat} (hsz : es.all (fun c => c.length == sz) = true) :
    ∃ A cap, x = .slice A es.length cap ∧ (es = [] ∨ ∃ b o, A = some ⟨b, o, none⟩ ∧ ∀ (i j : Nat) (cs : List PV) (p : PV), es[i]? = some cs → cs[j]? = some p → ∃ y, w.cell? ⟨b, o + i * sz + j, none⟩ = some y ∧ VR F ι p y) := by
  unfold elemsOf at he
  split at he
  · simp at he; subst he
    cases ha
    exact ⟨none, 0, rfl, .inl rfl⟩
  · rename_i es0
    simp at he; subst he
    cases ha with
    | slNil => exact ⟨none, 0, rfl, .inl rfl⟩
    | slE => exact ⟨_, _, rfl, .inl rfl⟩
    | sl _ _ b off sz' cap xs hn hs hF hV =>
      refine ⟨_, cap, rfl, ?_⟩
      by_cases hne : es0 = []
      · exact .inl hne
      · refine .inr ⟨b, off, rfl, fun i j cs p h1 h2 => ?_⟩
        have hm1 := List.mem_of_getElem? h1
        have e1 : sz' = sz := by rw [← hs cs hm1]; simpa using List.all_eq_true.1 hsz cs hm1
        subst e1
        have hi := (List.getElem?_eq_some_iff.1 h1).1
        have hj : j < sz' := by rw [← hs cs hm1]; exact (List.getElem?_eq_some_iff.1 h2).1
        exact ⟨xs i j, hm.val _ _ _ (hF i j hi hj), (hV i j cs p h1 h2).grow ⟨fun _ _ _ e => e, fun _ _ e => by cases e⟩⟩
  · rename_i id e off len
    split at he
    · rename_i es0 wr hs0
      split at he
      · rename_i hle
        simp at he
        have hel : es.length = len := by rw [← he]; simp; omega
        cases ha with
        | ownNil =>
          have : es = [] := List.eq_nil_of_length_eq_zero hel
          rw [hel]
          exact ⟨none, 0, rfl, .inl this⟩
        | ownE =>
          have : es = [] := List.eq_nil_of_length_eq_zero hel
          rw [hel]
          exact ⟨_, 0, rfl, .inl this⟩
        | own _ _ _ _ _ b s tot cap hι hp0 hc hl =>
          rw [hel]
          refine ⟨_, cap, rfl, .inr ⟨b, off * s, rfl, fun i j cs p h1 h2 => ?_⟩⟩
          obtain ⟨c, g1, g2, g3, g4, g5, _⟩ := hm.cellsAt hι hp0 hs0
          have hm1 := List.mem_of_getElem? h1
          have hilt : i < len := by rw [← hel]; exact (List.getElem?_eq_some_iff.1 h1).1
          have h3 : es0[off + i]? = some cs := by
            rw [← he, List.getElem?_take, if_pos hilt, List.getElem?_drop] at h1
            exact h1
          have e1 : s = sz := by
            rw [← g4 cs (List.mem_of_getElem? h3)]; simpa using List.all_eq_true.1 hsz cs hm1
          subst e1
          obtain ⟨y, hy, hv⟩ := g5 _ _ _ _ h3 h2
          refine ⟨y, ?_, hv⟩
          rw [cell_of_blk g1, ← Nat.add_mul]
          exact hy
      · cases he
    · cases he
  · cases he

/-- Elements laid one behind another. -/
theorem flat_news {w : World} {F : Froz} {ι : Loc} {es : List (List PV)} {sz b o : Nat} (hs : ∀ cs ∈ es, cs.length = sz)
    (h : ∀ (i j : Nat) (cs : List PV) (p : PV), es[i]? = some cs → cs[j]? = some p → ∃ y, w.cell? ⟨b, o + i * sz + j, none⟩ = some y ∧ VR F ι p y) :
    ∃ news : List Value, news.length = es.length * sz ∧ (∀ j u, news[j]? = some u → w.cell? ((⟨b, o, none⟩ : Addr).add j) = some u) ∧
      ∀ (i j : Nat) (cs : List PV) (p : PV), es[i]? = some cs → cs[j]? = some p → ∃ y, news[i * sz + j]? = some y ∧ VR F ι p y := by
  obtain ⟨news, hl, hn⟩ := list_choose (R := fun k y => w.cell? ⟨b, o + k, none⟩ = some y) (es.length * sz) (fun k hk => by
    have hsz : 0 < sz := by rcases Nat.eq_zero_or_pos sz with h0 | h0; · rw [h0] at hk; simp at hk
                            · exact h0
    have hi : k / sz < es.length := Nat.div_lt_of_lt_mul (by rw [Nat.mul_comm]; exact hk)
    have hj : k % sz < sz := Nat.mod_lt _ hsz
    have hcl := hs es[k / sz] (List.getElem_mem hi)
    obtain ⟨y, hy, _⟩ := h (k / sz) (k % sz) es[k / sz] (es[k / sz][k % sz]'(by omega)) (List.getElem?_eq_getElem hi) (List.getElem?_eq_getElem (by omega))
    refine ⟨y, ?_⟩
    rw [← hy]
    congr 2
    have := Nat.div_add_mod' k sz
    omega)
  refine ⟨news, hl, fun j u hu => by rw [add_at]; exact hn j u hu, fun i j cs p h1 h2 => ?_⟩
  obtain ⟨y, hy, hv⟩ := h i j cs p h1 h2
  have hi := (List.getElem?_eq_some_iff.1 h1).1
  have hj : j < sz := by rw [← hs cs (List.mem_of_getElem? h1)]; exact (List.getElem?_eq_some_iff.1 h2).1
  have hb : i * sz + j < news.length := by
    rw [hl]
    have : (i + 1) * sz ≤ es.length * sz := Nat.mul_le_mul_right _ hi
    rw [Nat.succ_mul] at this; omega
  have h3 := hn _ _ (List.getElem?_eq_getElem hb)
  rw [← Nat.add_assoc, hy] at h3
  injection h3 with h3
  exact ⟨y, by rw [List.getElem?_eq_getElem hb, h3], hv⟩

theorem flat_one {F : Froz} {ι : Loc} {es : List (List PV)} {sz : Nat} {news : List Value} (hs : ∀ cs ∈ es, cs.length = sz) (hl : news.length = es.length * sz)
    (h : ∀ (i j : Nat) (cs : List PV) (p : PV), es[i]? = some cs → cs[j]? = some p → ∃ y, news[i * sz + j]? = some y ∧ VR F ι p y) (h1 : es.all (fun c => c.all PV.one) = true) : ∀ u ∈ news, u.oneCell' = true := by
  intro u hu
  obtain ⟨k, hk, rfl⟩ := List.mem_iff_getElem.1 hu
  rw [hl] at hk
  have hsz : 0 < sz := by
    rcases Nat.eq_zero_or_pos sz with h0 | h0
    · rw [h0] at hk; simp at hk
    · exact h0
  have hi : k / sz < es.length := Nat.div_lt_of_lt_mul (by rw [Nat.mul_comm]; exact hk)
  have hj : k % sz < sz := Nat.mod_lt _ hsz
  have hcl := hs es[k / sz] (List.getElem_mem hi)
  have hjl : k % sz < es[k / sz].length := by omega
  obtain ⟨y, hy, hv⟩ := h (k / sz) (k % sz) es[k / sz] (es[k / sz][k % sz]) (List.getElem?_eq_getElem hi) (List.getElem?_eq_getElem hjl)
  rw [Nat.div_add_mod' k sz, List.getElem?_eq_getElem (by rw [hl]; exact hk)] at hy
  injection hy with hy
  rw [hy]
  refine hv.oneCell ?_
  have := List.all_eq_true.1 h1 _ (List.getElem_mem hi)
  exact List.all_eq_true.1 this _ (List.getElem_mem hjl)

/-- A block is taken over under a new name. -/
theorem Mem.adopt {P : Program} {base : Nat} {F : Froz} {ι : Loc} {σ : Sto} {w w' : World} (h : Mem P base F ι σ w) {id : Id} (hf : ι id = none) {g e sz tot : Nat} (hsize : w.heap.size ≤ w'.heap.size) (hw : ∀ k, k < w.heap.size → k ≠ g → w'.heap[k]? = w.heap[k]?)
    (hg : base ≤ g ∧ g < w'.heap.size) (hsz : 0 < sz) (hT : szI P e = some sz) (htot : tot ≤ maxLen) (hfree : ∀ id' T s n, σ id' ≠ none → 0 < s → ι id' ≠ some (g, T, s, n)) (hval : ∀ o x, F g o = some x → w'.cell? ⟨g, o, none⟩ = some x) {B : Blk}
    (hB : BlkOK F ι w' g e sz tot B) (hS : Safe F g sz B) : Mem P base F (upd ι id (some (g, e, sz, tot))) (upd σ id (some B)) w' ∧ Grow F F ι (upd ι id (some (g, e, sz, tot))) := by
  have hgr : Grow F F ι (upd ι id (some (g, e, sz, tot))) := ⟨fun _ _ _ e => e, fun id' y e => by
    by_cases hi : id' = id
    · subst hi; rw [hf] at e; cases e
    · rw [upd_ne _ _ hi]; exact e⟩
  refine ⟨⟨Nat.le_trans h.bd hsize, ?_, ?_, ?_, ?_⟩, hgr⟩
  · intro b o x hx
    by_cases hb : b = g
    · subst hb; exact hval o x hx
    · rw [cell_world (hw b (lt_of_cell (h.val _ _ _ hx)) hb)]; exact h.val _ _ _ hx
  · intro id' b T s n hx hp
    by_cases hi : id' = id
    · subst hi
      rw [upd_same] at hx
      simp only [Option.some.injEq, Prod.mk.injEq] at hx
      obtain ⟨rfl, rfl, rfl, rfl⟩ := hx
      exact ⟨hg.1, hg.2, hsz, hT, htot⟩
    · rw [upd_ne _ _ hi] at hx
      obtain ⟨a1, a2, a3⟩ := h.loc _ _ _ _ _ hx hp
      exact ⟨a1, Nat.lt_of_lt_of_le a2 hsize, a3⟩
  · intro id' B' hx
    by_cases hi : id' = id
    · subst hi
      rw [upd_same] at hx
      injection hx with hx
      subst hx
      exact .inr ⟨g, e, sz, tot, upd_same _ _ _, hsz, hB.grow hgr, hS⟩
    · rw [upd_ne _ _ hi] at hx
      rcases h.blk id' B' hx with ⟨wr, T', a1, a2⟩ | ⟨b, T, s, n, a1, a0, a2, a3⟩
      · exact .inl ⟨wr, T', a1, by rw [upd_ne _ _ hi]; exact a2⟩
      · have hb : b ≠ g := by
          rintro rfl
          exact hfree id' T s n (by rw [hx]; simp) a0 a1
        exact .inr ⟨b, T, s, n, hgr.l _ _ a1, a0, (a2.grow hgr).world (hw b (h.loc _ _ _ _ _ a1 a0).2.1 hb), a3⟩
  · intro id1 id2 b T1 s1 n1 T2 s2 n2 h1 h2 e1 e2 p1 p2
    by_cases hi1 : id1 = id <;> by_cases hi2 : id2 = id
    · rw [hi1, hi2]
    · subst hi1
      rw [upd_same] at e1
      rw [upd_ne _ _ hi2] at h2 e2
      simp only [Option.some.injEq, Prod.mk.injEq] at e1
      obtain ⟨rfl, _⟩ := e1
      exact absurd e2 (hfree _ _ _ _ h2 p2)
    · subst hi2
      rw [upd_same] at e2
      rw [upd_ne _ _ hi1] at h1 e1
      simp only [Option.some.injEq, Prod.mk.injEq] at e2
      obtain ⟨rfl, _⟩ := e2
      exact absurd e1 (hfree _ _ _ _ h1 p1)
    · rw [upd_ne _ _ hi1] at h1 e1
      rw [upd_ne _ _ hi2] at h2 e2
      exact h.inj id1 id2 b T1 s1 n1 T2 s2 n2 h1 h2 e1 e2 p1 p2

/-- An empty block that doesn't lie anywhere yet. -/
theorem Mem.newEmpty {P : Program} {base : Nat} {F : Froz} {ι : Loc} {σ : Sto} {w : World} (h : Mem P base F ι σ w) {id : Id} (hf : ι id = none) (wr : Bool) (e : TypeId) :
    Mem P base F (upd ι id (some (0, e, 0, 0))) (upd σ id (some (.cells [] wr))) w ∧ Grow F F ι (upd ι id (some (0, e, 0, 0))) := by
  have hgr : Grow F F ι (upd ι id (some (0, e, 0, 0))) := ⟨fun _ _ _ e => e, fun id' y e => by
    by_cases hi : id' = id
    · subst hi; rw [hf] at e; cases e
    · rw [upd_ne _ _ hi]; exact e⟩
  refine ⟨⟨h.bd, h.val, ?_, ?_, ?_⟩, hgr⟩
  · intro id' b T s n hx hp
    by_cases hi : id' = id
    · subst hi
      rw [upd_same] at hx
      simp only [Option.some.injEq, Prod.mk.injEq] at hx
      omega
    · rw [upd_ne _ _ hi] at hx
      exact h.loc _ _ _ _ _ hx hp
  · intro id' B hB
    by_cases hi : id' = id
    · subst hi
      rw [upd_same] at hB
      injection hB with hB
      exact .inl ⟨wr, e, hB.symm, upd_same _ _ _⟩
    · rw [upd_ne _ _ hi] at hB
      rcases h.blk id' B hB with ⟨wr', T', a1, a2⟩ | ⟨b, T, s, n, a1, a0, a2, a3⟩
      · exact .inl ⟨wr', T', a1, by rw [upd_ne _ _ hi]; exact a2⟩
      · exact .inr ⟨b, T, s, n, hgr.l _ _ a1, a0, a2.grow hgr, a3⟩
  · intro id1 id2 b T1 s1 n1 T2 s2 n2 h1 h2 e1 e2 p1 p2
    have k1 : id1 ≠ id := by
      rintro rfl
      rw [upd_same] at e1
      simp only [Option.some.injEq, Prod.mk.injEq] at e1
      omega
    have k2 : id2 ≠ id := by
      rintro rfl
      rw [upd_same] at e2
      simp only [Option.some.injEq, Prod.mk.injEq] at e2
      omega
    rw [upd_ne _ _ k1] at h1 e1
    rw [upd_ne _ _ k2] at h2 e2
    exact h.inj id1 id2 b T1 s1 n1 T2 s2 n2 h1 h2 e1 e2 p1 p2

/-! ### append -/
def pAppend (P : Program) (id : Id) (σ : Sto) (T : TypeId) (s x : PV) : Option (PV × SAct) :=
  match slI P T, elemsOf σ x with
  | some (e, sz, by_), some news => match zrI P e with
    | some zs => if 0 < sz ∧ 0 < by_ ∧ zs.length = sz ∧ news.all (fun c => c.length == sz) = true ∧ news.all (fun c => c.all PV.one) = true then
        match s with
        | .nilS => if news.length * by_ ≤ 140737488355328 then some (.own id e 0 news.length, .new (.cells news true)) else none
        | .own i e' 0 len => match σ i with
          | some (.cells es wr) => if e = e' ∧ len ≤ es.length ∧ (wr = true ∨ es.length = len) ∧ (len + news.length) * by_ ≤ 140737488355328 then some (.own id e 0 (len + news.length), .kill i (.cells (es.take len ++ news) wr)) else none
          | _ => none
        | _ => none
      else none
    | none => none
  | _, _ => none

theorem zrI_info {P : Program} {e : TypeId} {zs : List Value} (h : zrI P e = some zs) : ∃ i z, P.info? e = some i ∧ i.zero = some z ∧ z.cells.toList = zs := by
  simp only [zrI, Option.map_eq_some_iff, Option.bind_eq_some_iff] at h
  obtain ⟨z, ⟨i, hi, hz⟩, hs⟩ := h
  exact ⟨i, z, hi, hz, hs⟩

/-- What the two rows' cells come to. -/
theorem cells_append {F : Froz} {ι : Loc} {es news : List (List PV)} {xs nv : List Value} {sz : Nat} (hx : xs.length = es.length * sz)
    (h1 : ∀ (i j : Nat) (cs : List PV) (p : PV), es[i]? = some cs → cs[j]? = some p → ∃ y, xs[i * sz + j]? = some y ∧ VR F ι p y)
    (h2 : ∀ (i j : Nat) (cs : List PV) (p : PV), news[i]? = some cs → cs[j]? = some p → ∃ y, nv[i * sz + j]? = some y ∧ VR F ι p y) :
    ∀ (i j : Nat) (cs : List PV) (p : PV), (es ++ news)[i]? = some cs → cs[j]? = some p → ∃ y, (xs ++ nv)[i * sz + j]? = some y ∧ VR F ι p y := by
  intro i j cs p a1 a2
  by_cases hin : i < es.length
  · rw [List.getElem?_append_left hin] at a1
    obtain ⟨y, hy, hv⟩ := h1 i j cs p a1 a2
    exact ⟨y, by rw [List.getElem?_append_left ((List.getElem?_eq_some_iff.1 hy).1)]; exact hy, hv⟩
  · rw [List.getElem?_append_right (by omega)] at a1
    obtain ⟨y, hy, hv⟩ := h2 _ j cs p a1 a2
    refine ⟨y, ?_, hv⟩
    have : i * sz = es.length * sz + (i - es.length) * sz := by rw [← Nat.add_mul]; congr 1; omega
    rw [List.getElem?_append_right (by rw [hx]; omega), hx]
    rw [show i * sz + j - es.length * sz = (i - es.length) * sz + j by omega]
    exact hy

/-- The append that lays a new row. -/
theorem grow_ok {P : Program} {base : Nat} {F : Froz} {ι : Loc} {σ : Sto} {w : World} (hm : Mem P base F ι σ w) {id : Id} (hf : ι id = none) (hs : σ id = none) {e sz cap n : Nat} (hsz : 0 < sz) (hT : szI P e = some sz) (hcm : cap ≤ maxLen) {es : List (List PV)} {wr : Bool}
    (hn : es.length = n) (hnc : n ≤ cap) (hl : ∀ cs ∈ es, cs.length = sz) {C : Array Value} (hC : C.size = cap * sz) {s : Sem Value}
    (hv : ∀ (i j : Nat) (cs : List PV) (p : PV), es[i]? = some cs → cs[j]? = some p → ∃ y, C[i * sz + j]? = some y ∧ VR F ι p y)
    (hr : s.run P w = .ok (.slice (some ⟨w.heap.size, 0, none⟩) n cap) (w.drew.alloc (.cells C e))) :
    OpOK P base F ι id w (do pure (.value (← s))) (.own id e 0 n) (upd σ id (some (.cells es wr))) := by
  have hB : BlkOK F (upd ι id (some (w.drew.heap.size, e, sz, cap))) (w.drew.alloc (.cells C e)) w.drew.heap.size e sz cap (.cells es wr) := by
    refine ⟨C, by show (w.heap.push _)[w.heap.size]? = _; simp, hC, by omega, hl, fun i j cs p hi hj => ?_⟩
    obtain ⟨x, h1, h2⟩ := hv i j cs p hi hj
    exact ⟨x, h1, h2.grow ⟨fun _ _ _ e => e, fun id' y e => by
      by_cases hi : id' = id
      · subst hi; rw [hf] at e; cases e
      · rw [upd_ne _ _ hi]; exact e⟩⟩
  obtain ⟨m1, g1, b1⟩ := hm.drew.new hf hs (.cells C e) e sz cap hsz hT hcm _ hB
  refine ⟨_, _, _, by simp only [Sem.run_bind, hr, Result.andThen_ok, Sem.run_pure]; rfl, .inl ⟨_, rfl, own_new hsz hnc _ (upd_same _ _ _)⟩, m1, g1, ?_, fun j hj => upd_ne _ _ hj⟩
  exact ((Below.refl _ _).drew).trans b1

theorem append_ok {P : Program} {base : Nat} {F : Froz} {ι : Loc} {σ : Sto} {w : World} (hm : Mem P base F ι σ w) {id : Id} (hf : ι id = none) (hs : σ id = none) {T ty : TypeId} {s x : PV} {a b : Value} (ha : VR F ι s a) (hb : VR F ι x b) {v : PV} {act : SAct}
    (h : pAppend P id σ T s x = some (v, act)) : OpOK P base F ι id w (do pure (.value (← Builtin.append_ #[T, T] ty #[a, b]))) v (act.app id σ) := by
  unfold pAppend at h
  split at h
  · rename_i e sz by_ news hsl hel
    split at h
    · rename_i zs hzr
      split at h
      · rename_i hc
        obtain ⟨hsz, hby, hzl, hall, hone⟩ := hc
        obtain ⟨hu, i, hi, hi1, hi2⟩ := slI_spec hsl
        obtain ⟨i', z, hi', hz, hzc⟩ := zrI_info hzr
        rw [hi] at hi'
        injection hi' with hi'
        subst hi'
        have hzs : z.cells.size = sz := by rw [← hzl, ← hzc]; simp
        have hT : szI P e = some sz := by simp [szI, hi, hi1]
        have hs' : ∀ cs ∈ news, cs.length = sz := fun cs hcs => by simpa using List.all_eq_true.1 hall cs hcs
        obtain ⟨A, cap, rfl, hA⟩ := elems_cells hm hb hel hall
        split at h
        · -- nil
          split at h
          · rename_i hle
            simp only [Option.some.injEq, Prod.mk.injEq] at h
            obtain ⟨rfl, rfl⟩ := h
            cases ha
            by_cases hne : news = []
            · subst hne
              refine ⟨.value (.slice none 0 0), w, _, ?_, .inl ⟨_, rfl, .ownNil _ _ _ (upd_same _ _ _)⟩, (hm.newEmpty hf true e).1, (hm.newEmpty hf true e).2, Below.refl _ _, fun j hj => upd_ne _ _ hj⟩
              cases A <;> simp [Builtin.append_, run_underlying hu, sizeOf, typeInfo, hi, Builtin.lenOf, Builtin.firstCells, loadCells, loadCellsFrom]
            · rcases hA with h0 | ⟨b, o, rfl, hA⟩
              · exact absurd h0 hne
              · obtain ⟨nv, k1, k2, k3⟩ := flat_news hs' hA
                have hpos : 0 < news.length := List.length_pos_iff.2 hne
                have hml : news.length ≤ news.length * by_ := Nat.le_mul_of_pos_right _ hby
                have hr := run_append_nil (P := P) w T ty e i z hu hi hz ⟨b, o, none⟩ news.length cap nv (by rw [k1, hi1]) k2 hpos (by omega) (by rw [hi2]; omega)
                refine grow_ok (sz := sz) (cap := grownCap w news.length 0 e) hm hf hs hsz hT (grownCap_le_maxLen _ _ _ _ (by simp only [maxLen]; omega)) rfl (grownCap_ge _ _ _ _) hs' ?_ ?_ hr
                · rw [Array.size_append, size_zeroCells, hzs, List.size_toArray, k1, ← Nat.add_mul]
                  congr 1
                  have := grownCap_ge w news.length 0 e
                  omega
                · intro i j cs p h1 h2
                  obtain ⟨y, hy, hv⟩ := k3 i j cs p h1 h2
                  refine ⟨y, ?_, hv⟩
                  have hlt := (List.getElem?_eq_some_iff.1 hy).1
                  rw [Array.getElem?_append_left (by simpa using hlt)]
                  simpa using hy
          · cases h
        · -- a row of the call's own
          rename_i i0 e' len
          split at h
          · rename_i esO wr hs0
            split at h
            · rename_i hcond
              obtain ⟨rfl, hlenO, hwrO, hle⟩ := hcond
              simp only [Option.some.injEq, Prod.mk.injEq] at h
              obtain ⟨rfl, rfl⟩ := h
              obtain ⟨es, hes, hlen, hsub, hsame⟩ : ∃ es, esO.take len = es ∧ es.length = len ∧ (∀ (i : Nat) cs, es[i]? = some cs → esO[i]? = some cs) ∧ (wr = false → es = esO) := by
                refine ⟨_, rfl, by simp; omega, fun i cs hi => ?_, fun hw => ?_⟩
                · rw [List.getElem?_take] at hi
                  split at hi
                  · exact hi
                  · cases hi
                · rcases hwrO with h | h
                  · rw [hw] at h; cases h
                  · exact List.take_of_length_le (by omega)
              rw [hes]
              have hne : i0 ≠ id := by rintro rfl; rw [hs] at hs0; cases hs0
              have hm1 : Mem P base F ι (upd σ i0 none) w := hm.forget fun j B hj => by
                by_cases hji : j = i0
                · subst hji; rw [upd_same] at hj; cases hj
                · rwa [upd_ne _ _ hji] at hj
              have hs1 : (upd σ i0 none) id = none := by rw [upd_ne _ _ (Ne.symm hne)]; exact hs
              have hml : len + news.length ≤ (len + news.length) * by_ := Nat.le_mul_of_pos_right _ hby
              show OpOK P base F ι id w _ _ (upd (upd σ i0 none) id (some (.cells (es ++ news) wr)))
              cases ha with
              | ownE _ _ _ _ _ _ _ _ _ _ hpos => omega
              | ownNil =>
                have hes0 : es = [] := List.eq_nil_of_length_eq_zero hlen
                subst hes0
                simp only [List.nil_append, Nat.zero_add]
                by_cases hne : news = []
                · subst hne
                  refine ⟨.value (.slice none 0 0), w, _, ?_, .inl ⟨_, rfl, .ownNil _ _ _ (upd_same _ _ _)⟩, (hm1.newEmpty hf wr e).1, (hm1.newEmpty hf wr e).2, Below.refl _ _, fun j hj => upd_ne _ _ hj⟩
                  cases A <;> simp [Builtin.append_, run_underlying hu, sizeOf, typeInfo, hi, Builtin.lenOf, Builtin.firstCells, loadCells, loadCellsFrom]
                · rcases hA with h0 | ⟨b, o, rfl, hA⟩
                  · exact absurd h0 hne
                  · obtain ⟨nv, k1, k2, k3⟩ := flat_news hs' hA
                    have hpos : 0 < news.length := List.length_pos_iff.2 hne
                    have hr := run_append_nil (P := P) w T ty e i z hu hi hz ⟨b, o, none⟩ news.length cap nv (by rw [k1, hi1]) k2 hpos (by omega) (by rw [hi2]; simp at hle; omega)
                    refine grow_ok (sz := sz) (cap := grownCap w news.length 0 e) hm1 hf hs1 hsz hT (grownCap_le_maxLen _ _ _ _ (by simp only [maxLen]; omega)) rfl (grownCap_ge _ _ _ _) hs' ?_ ?_ hr
                    · rw [Array.size_append, size_zeroCells, hzs, List.size_toArray, k1, ← Nat.add_mul]
                      congr 1
                      have := grownCap_ge w news.length 0 e
                      omega
                    · intro i j cs p h1 h2
                      obtain ⟨y, hy, hv⟩ := k3 i j cs p h1 h2
                      refine ⟨y, ?_, hv⟩
                      have hlt := (List.getElem?_eq_some_iff.1 hy).1
                      rw [Array.getElem?_append_left (by simpa using hlt)]
                      simpa using hy
              | own _ _ _ _ _ g sz' tot cap' hι hp0 hcap hl' =>
                obtain ⟨l1, l2, l3, l4, l5⟩ := hm.loc _ _ _ _ _ hι hp0
                have hszz : sz' = sz := by rw [hT] at l4; injection l4 with l4; exact l4.symm
                subst hszz
                obtain ⟨c, g1, g2, g3O, g4O, g5O, g6O⟩ := hm.cellsAt hι hp0 hs0
                have g3 : es.length ≤ tot := by omega
                have g4 : ∀ cs ∈ es, cs.length = sz' := fun cs hcs => by
                  obtain ⟨k, hk⟩ := List.getElem?_of_mem hcs
                  exact g4O cs (List.mem_of_getElem? (hsub k cs hk))
                have g5 : ∀ (i j : Nat) (cs : List PV) (p : PV), es[i]? = some cs → cs[j]? = some p → ∃ x, c[i * sz' + j]? = some x ∧ VR F ι p x := fun i j cs p h1 h2 => g5O i j cs p (hsub i cs h1) h2
                have g6 : Safe F g sz' (.cells es wr) := by
                  cases wr with
                  | true => exact g6O
                  | false => rw [hsame rfl]; exact g6O
                have hcap0 : cap' = tot := by omega
                subst hcap0
                simp only [Nat.zero_mul]
                -- the old cells
                have hlk : len * sz' ≤ c.size := by rw [g2]; exact Nat.mul_le_mul_right _ hl'
                have hxl : (c.toList.take (len * sz')).length = es.length * sz' := by simp; rw [hlen]; omega
                have hxs : ∀ (i j : Nat) (cs : List PV) (p : PV), es[i]? = some cs → cs[j]? = some p → ∃ y, (c.toList.take (len * sz'))[i * sz' + j]? = some y ∧ VR F ι p y := by
                  intro i j cs p h1 h2
                  obtain ⟨y, hy, hv⟩ := g5 i j cs p h1 h2
                  refine ⟨y, ?_, hv⟩
                  have hi := (List.getElem?_eq_some_iff.1 h1).1
                  have hj : j < sz' := by rw [← g4 cs (List.mem_of_getElem? h1)]; exact (List.getElem?_eq_some_iff.1 h2).1
                  have : (i + 1) * sz' ≤ len * sz' := Nat.mul_le_mul_right _ (by omega)
                  rw [Nat.succ_mul] at this
                  rw [List.getElem?_take, if_pos (by omega), Array.getElem?_toList]
                  exact hy
                by_cases hnn : news = []
                · subst hnn
                  simp only [List.append_nil, List.length_nil, Nat.add_zero]
                  obtain ⟨m1, gr⟩ := hm1.adopt (w' := w) (id := id) (e := e) (sz := sz') (tot := cap') (B := .cells es wr) hf (Nat.le_refl _) (fun _ _ _ => rfl) ⟨l1, l2⟩ l3 l4 l5 (by
                    intro id' T' s n hne' hps he
                    by_cases hji : id' = i0
                    · subst hji; rw [upd_same] at hne'; exact hne' rfl
                    · rw [upd_ne _ _ hji] at hne'
                      exact hji (hm.inj id' i0 g T' s n e sz' cap' hne' (by rw [hs0]; simp) he hι hps hp0)) (fun o x hx => hm.val _ _ _ hx) ⟨c, g1, g2, g3, g4, g5⟩ g6
                  refine ⟨.value (.slice (some ⟨g, 0, none⟩) len cap'), w, _, ?_, .inl ⟨_, rfl, own_new hsz hl' _ (upd_same _ _ _)⟩, m1, gr, Below.refl _ _, fun j hj => upd_ne _ _ hj⟩
                  cases A <;> simp [Builtin.append_, run_underlying hu, sizeOf, typeInfo, hi, Builtin.lenOf, Builtin.firstCells, loadCells, loadCellsFrom, hl', storeCells]
                · rcases hA with h0 | ⟨b, o, rfl, hA⟩
                  · exact absurd h0 hnn
                  · obtain ⟨nv, k1, k2, k3⟩ := flat_news hs' hA
                    have hlens : ∀ cs ∈ es ++ news, cs.length = sz' := by
                      intro cs hcs
                      rcases List.mem_append.1 hcs with h | h
                      · exact g4 cs h
                      · exact hs' cs h
                    have hall' := cells_append hxl hxs k3
                    by_cases hroom : len + news.length ≤ cap'
                    · have hfit : len * sz' + nv.length ≤ c.size := by rw [k1, g2, ← Nat.add_mul]; exact Nat.mul_le_mul_right _ hroom
                      have hr := run_append_room (P := P) w T ty e i hu hi g len cap' c g1 ⟨b, o, none⟩ news.length cap nv (by rw [k1, hi1]) k2 (flat_one hs' k1 k3 hone) hroom (by rw [hi1]; exact hfit)
                      rw [hi1] at hr
                      have hnew := setRow_heap w g c (c.toList.take (len * sz') ++ nv ++ c.toList.drop (len * sz' + nv.length)).toArray e (0, 0) g1
                      have hrl : (c.toList.take (len * sz') ++ nv).length = (len + news.length) * sz' := by rw [List.length_append, hxl, k1, hlen, ← Nat.add_mul]
                      have hget : ∀ (k : Nat) (y : Value), (c.toList.take (len * sz') ++ nv)[k]? = some y → (c.toList.take (len * sz') ++ nv ++ c.toList.drop (len * sz' + nv.length)).toArray[k]? = some y := by
                        intro k y hy
                        have hlt := (List.getElem?_eq_some_iff.1 hy).1
                        rw [List.getElem?_toArray, List.getElem?_append_left hlt]
                        exact hy
                      obtain ⟨m1, gr⟩ := hm1.adopt (w' := w.setRow g (c.toList.take (len * sz') ++ nv ++ c.toList.drop (len * sz' + nv.length)).toArray) (id := id) (e := e) (sz := sz') (tot := cap') (B := .cells (es ++ news) wr) hf (by simp)
                        (fun k _ hk => setRow_other w g k _ (fun e => hk e)) ⟨l1, by simp; exact l2⟩ l3 l4 l5 (by
                          intro id' T' s n hne' hps he
                          by_cases hji : id' = i0
                          · subst hji; rw [upd_same] at hne'; exact hne' rfl
                          · rw [upd_ne _ _ hji] at hne'
                            exact hji (hm.inj id' i0 g T' s n e sz' cap' hne' (by rw [hs0]; simp) he hι hps hp0))
                        (fun o' x hx => by
                          cases wr with
                          | true => rw [g6 o'] at hx; cases hx
                          | false =>
                            have ho := g6 o' x hx
                            have h1 := hm.val _ _ _ hx
                            rw [cell_of_blk g1] at h1
                            rw [cell_of_blk hnew]
                            refine hget o' x ?_
                            rw [List.getElem?_append_left (by rw [hxl]; exact ho), List.getElem?_take, if_pos (by rw [← hlen]; exact ho), Array.getElem?_toList]
                            exact h1)
                        ⟨_, hnew, by simp; omega, by simp [hlen]; exact hroom, hlens, fun i j cs p h1 h2 => by
                          obtain ⟨y, hy, hv⟩ := hall' i j cs p h1 h2
                          exact ⟨y, hget _ _ hy, hv⟩⟩
                        (by
                          cases wr with
                          | true => exact g6
                          | false =>
                            intro o' x hx
                            have := g6 o' x hx
                            have h2 : es.length * sz' ≤ (es ++ news).length * sz' := Nat.mul_le_mul_right _ (by simp)
                            omega)
                      refine ⟨.value (.slice (some ⟨g, 0, none⟩) (len + news.length) cap'), _, _, by simp only [Sem.run_bind, hr, Result.andThen_ok, Sem.run_pure], .inl ⟨_, rfl, own_new hsz hroom _ (upd_same _ _ _)⟩, m1, gr, ?_, fun j hj => upd_ne _ _ hj⟩
                      exact ⟨⟨rfl, rfl, rfl, by simp, fun k hk => setRow_other w g k _ (by omega)⟩, Nat.le_refl _⟩
                    · have holds : ∀ j u, (c.toList.take (len * sz'))[j]? = some u → w.cell? ((⟨g, 0, none⟩ : Addr).add j) = some u := by
                        intro j u hj
                        rw [add_at, Nat.zero_add, cell_of_blk g1, ← Array.getElem?_toList]
                        rw [List.getElem?_take] at hj
                        split at hj
                        · exact hj
                        · cases hj
                      have hr := run_append_grow (P := P) w T ty e i z hu hi hz ⟨g, 0, none⟩ len cap' (c.toList.take (len * sz')) (by rw [hxl, hi1, hlen]) holds ⟨b, o, none⟩ news.length cap nv (by rw [k1, hi1]) k2 (by omega) (by omega) (growslice_fits (by omega) (by rw [hi2]; exact hle))
                      refine grow_ok (sz := sz') (cap := grownCap w (len + news.length) cap' e) hm1 hf hs1 hsz hT (grownCap_le_maxLen _ _ _ _ (by simp only [maxLen]; omega)) (by simp [hlen]) (grownCap_ge _ _ _ _) hlens ?_ ?_ hr
                      · rw [Array.size_append, Array.size_append, size_zeroCells, hzs, List.size_toArray, List.size_toArray, hxl, k1, hlen, ← Nat.add_mul, ← Nat.add_mul]
                        congr 1
                        have := grownCap_ge w (len + news.length) cap' e
                        omega
                      · intro i j cs p h1 h2
                        obtain ⟨y, hy, hv⟩ := hall' i j cs p h1 h2
                        refine ⟨y, ?_, hv⟩
                        have hlt := (List.getElem?_eq_some_iff.1 hy).1
                        rw [Array.getElem?_append_left (by simpa using hlt), List.append_toArray]
                        simpa using hy
            · cases h
          · cases h
        · cases h
      · cases h
    · cases h
  · cases h

end Go.PM
end

section
set_option linter.unusedSimpArgs false
set_option linter.unusedVariables false
set_option linter.constructorNameAsVariable false
/- copy, clear, len, comparisons with nil, maps, and what reckons with plain values alone. -/
namespace Go.PM
open Go Go.RowKit

/-! ### Elements written into a row of the call's own -/
theorem putEls {P : Program} {base : Nat} {F : Froz} {ι : Loc} {σ : Sto} {w : World} (hm : Mem P base F ι σ w) {i : Id} {b e sz tot : Nat} (hι : ι i = some (b, e, sz, tot)) (hp0 : 0 < sz) {es : List (List PV)} (hs : σ i = some (.cells es true)) {k : Nat} {news : List (List PV)} {nv : List Value}
    (hk : k + news.length ≤ es.length) (hs' : ∀ cs ∈ news, cs.length = sz) (hl : nv.length = news.length * sz) (h1 : ∀ u ∈ nv, u.oneCell' = true)
    (hv : ∀ (i j : Nat) (cs : List PV) (p : PV), news[i]? = some cs → cs[j]? = some p → ∃ y, nv[i * sz + j]? = some y ∧ VR F ι p y) :
    ∃ w', (storeCells ⟨b, k * sz, none⟩ nv).run P w = .ok () w' ∧ Mem P base F ι (upd σ i (some (.cells (es.take k ++ news ++ es.drop (k + news.length)) true))) w' ∧ Below base w w' := by
  obtain ⟨c, g1, g2, g3, g4, g5, g6⟩ := hm.cellsAt hι hp0 hs
  have hbound : k * sz + nv.length ≤ c.size := by
    rw [hl, g2, ← Nat.add_mul]; exact Nat.mul_le_mul_right _ (by omega)
  have hrun := run_storeCells (P := P) nv w b (k * sz) 0 c e g1 (by omega) h1
  refine ⟨_, hrun, hm.put hs hι hp0 _ _ ?_ ?_ ?_⟩
  · intro o x hx; rw [g6 o] at hx; cases hx
  · refine ⟨_, putBlk_same w _ (lt_of_blk g1), by rw [size_wrA]; exact g2, by simp; omega, ?_, ?_⟩
    · intro cs hcs
      rcases List.mem_append.1 hcs with h | h
      · rcases List.mem_append.1 h with h | h
        · exact g4 cs (List.mem_of_mem_take h)
        · exact hs' cs h
      · exact g4 cs (List.mem_of_mem_drop h)
    · intro i' j cs p hi hj
      have hsp : (es.take k ++ news ++ es.drop (k + news.length))[i']? = if k ≤ i' ∧ i' < k + news.length then news[i' - k]? else es[i']? := by
        have ht : (es.take k).length = k := by simp; omega
        by_cases h1 : i' < k
        · rw [if_neg (by omega), List.append_assoc, List.getElem?_append_left (by omega), List.getElem?_take, if_pos h1]
        · by_cases h2 : i' < k + news.length
          · rw [if_pos ⟨by omega, h2⟩, List.append_assoc, List.getElem?_append_right (by omega), ht, List.getElem?_append_left (by omega)]
          · rw [if_neg (by omega), List.getElem?_append_right (by simp; omega), List.getElem?_drop]
            congr 1
            simp
            omega
      rw [hsp] at hi
      have hwr := get_wrA nv c (k * sz + 0) (i' * sz + j) (by omega)
      by_cases hin : k ≤ i' ∧ i' < k + news.length
      · rw [if_pos hin] at hi
        obtain ⟨y, hy, hvr⟩ := hv _ j cs p hi hj
        refine ⟨y, ?_, hvr⟩
        have hj' : j < sz := by rw [← hs' cs (List.mem_of_getElem? hi)]; exact (List.getElem?_eq_some_iff.1 hj).1
        have e1 : i' * sz = k * sz + (i' - k) * sz := by rw [← Nat.add_mul]; congr 1; omega
        have hlt := (List.getElem?_eq_some_iff.1 hy).1
        rw [hwr, if_pos ⟨by omega, by omega⟩, ← hy]
        congr 1
        omega
      · rw [if_neg hin] at hi
        obtain ⟨y, hy, hvr⟩ := g5 _ j cs p hi hj
        refine ⟨y, ?_, hvr⟩
        have hj' : j < sz := by rw [← g4 cs (List.mem_of_getElem? hi)]; exact (List.getElem?_eq_some_iff.1 hj).1
        rw [hwr, if_neg]
        · exact hy
        · rintro ⟨a1, a2⟩
          rcases Nat.lt_or_ge i' k with hlt | hge
          · have : (i' + 1) * sz ≤ k * sz := Nat.mul_le_mul_right _ hlt
            rw [Nat.succ_mul] at this
            omega
          · have : (k + news.length) * sz ≤ i' * sz := Nat.mul_le_mul_right _ (by omega)
            rw [Nat.add_mul] at this
            omega
  · exact g6

theorem upd_id {σ : Sto} {i : Id} {B : Blk} (h : σ i = some B) : upd σ i (some B) = σ := by
  funext j
  by_cases hj : j = i
  · subst hj; rw [upd_same, h]
  · rw [upd_ne _ _ hj]

def pCopy (P : Program) (σ : Sto) (T : TypeId) (d x : PV) : Option (PV × SAct) :=
  match slI P T, elemsOf σ x, d with
  | some (e, sz, _), some news, .own i e' off len => match σ i with
    | some (.cells es true) => let m := news.take (min news.length len)
      if e = e' ∧ off + len ≤ es.length ∧ news.all (fun c => c.length == sz) = true ∧ news.all (fun c => c.all PV.one) = true then
        some (.v (.int .i64 ((min news.length len : Nat) : Int)), .set i (.cells (es.take off ++ m ++ es.drop (off + m.length)) true)) else none
    | _ => none
  | _, _, _ => none

theorem copy_ok {P : Program} {base : Nat} {F : Froz} {ι : Loc} {σ : Sto} {w : World} (hm : Mem P base F ι σ w) {T T2 ty : TypeId} {d x : PV} {a b : Value} (ha : VR F ι d a) (hb : VR F ι x b) {v : PV} {act : SAct} (h : pCopy P σ T d x = some (v, act)) :
    ∃ y w', (Builtin.copy_ #[T, T2] ty #[a, b]).run P w = .ok y w' ∧ VR F ι v y ∧ (∀ id, Mem P base F ι (act.app id σ) w') ∧ Below base w w' := by
  unfold pCopy at h
  split at h
  · rename_i e sz by_ news i e' off len hsl hel
    split at h
    · rename_i es hs0
      simp only at h
      split at h
      · rename_i hc
        obtain ⟨rfl, hle, hall, hone⟩ := hc
        simp only [Option.some.injEq, Prod.mk.injEq] at h
        obtain ⟨rfl, rfl⟩ := h
        obtain ⟨hu, inf, hi, hi1, hi2⟩ := slI_spec hsl
        obtain ⟨A, cap, rfl, hA⟩ := elems_cells hm hb hel hall
        have hs' : ∀ cs ∈ news.take (min news.length len), cs.length = sz := fun cs hcs => by simpa using List.all_eq_true.1 hall cs (List.mem_of_mem_take hcs)
        have hmin : (news.take (min news.length len)).length = min news.length len := by simp
        have hnat : Nat.min news.length len = min news.length len := rfl
        have hsame : ∀ id, min news.length len = 0 → (SAct.set i (.cells (es.take off ++ news.take (min news.length len) ++ es.drop (off + (news.take (min news.length len)).length)) true)).app id σ = σ := by
          intro id h0
          simp only [SAct.app, h0, List.take_zero, List.append_nil, List.length_nil, Nat.add_zero, List.take_append_drop]
          exact upd_id hs0
        have hcell : ∀ (A' : Option Addr), (Builtin.firstCells sz 0 (.slice A' news.length cap)).run P w = .ok #[] w := by
          intro A'
          cases A' <;> simp [Builtin.firstCells, loadCells, loadCellsFrom]
        by_cases h0 : min news.length len = 0
        · refine ⟨goInt (min news.length len : Nat), w, ?_, .v _ _, fun id => by rw [hsame id h0]; exact hm, Below.refl _ _⟩
          rw [h0]
          have hrun : ∀ (B : Option Addr) (c' : Nat), (Builtin.copy_ #[T, T2] ty #[.slice B len c', .slice A news.length cap]).run P w = .ok (goInt (0 : Nat)) w := by
            intro B c'
            rw [h0] at hnat
            cases B <;> simp only [Builtin.copy_, Sem.run_bind, run_underlying hu, Result.andThen_ok, Builtin.lenOf, Sem.run_pure, sizeOf, run_info hi, hi1, hnat, hcell, List.getElem?_toArray, List.getElem?_cons_zero, List.getElem?_cons_succ, storeCells]
          cases ha <;> exact hrun _ _
        · have hpos : 0 < min news.length len := Nat.pos_of_ne_zero h0
          rcases hA with hA | ⟨b, o, rfl, hA⟩
          · rw [hA] at hpos; simp at hpos
          · obtain ⟨nv, k1, k2, k3⟩ := flat_news hs' (fun i j cs p h1 h2 => hA i j cs p (by
              rw [List.getElem?_take] at h1
              split at h1
              · exact h1
              · cases h1) h2)
            rw [hmin] at k1
            have hfc := run_firstCells_some (P := P) w sz (min news.length len) ⟨b, o, none⟩ news.length cap nv k1 k2
            have hone' : (news.take (min news.length len)).all (fun c => c.all PV.one) = true := List.all_eq_true.2 fun c hc => List.all_eq_true.1 hone c (List.mem_of_mem_take hc)
            cases ha with
            | ownNil => omega
            | ownE => omega
            | own _ _ _ _ _ g sz' tot cap' hι hp0 hcap hl =>
              have hszz : sz' = sz := by
                have l4 := (hm.loc _ _ _ _ _ hι hp0).2.2.2.1
                simp [szI, hi, hi1] at l4; exact l4.symm
              subst hszz
              obtain ⟨w', r1, r2, r3⟩ := putEls hm hι hp0 hs0 (k := off) (news := news.take (min news.length len)) (nv := nv) (by rw [hmin]; omega) hs' (by rw [hmin]; exact k1) (flat_one hs' (by rw [hmin]; exact k1) k3 hone') k3
              refine ⟨goInt (min news.length len : Nat), w', ?_, .v _ _, fun id => r2, r3⟩
              simp only [Builtin.copy_, Sem.run_bind, run_underlying hu, Result.andThen_ok, Builtin.lenOf, Sem.run_pure, sizeOf, run_info hi, hi1, hnat, hfc, List.getElem?_toArray, List.getElem?_cons_zero, List.getElem?_cons_succ]
              rw [r1]
              simp
      · cases h
    · cases h
  · cases h

end Go.PM
end

section
set_option linter.unusedSimpArgs false
set_option linter.unusedVariables false
set_option linter.constructorNameAsVariable false
/- clear, len, comparisons with nil, maps, interfaces, and what reckons with plain values alone. -/
namespace Go.PM
open Go Go.RowKit

/-! ### clear -/
def pClear (P : Program) (σ : Sto) (T : TypeId) (d : PV) : Option (PV × SAct) :=
  match slI P T, d with
  | some (e, sz, _), .own i e' off len => match σ i, zrI P e with
    | some (.cells es true), some zs => if e = e' ∧ 0 < len ∧ off + len ≤ es.length ∧ zs.length = sz ∧ zs.all Value.oneCell' = true then
        some (.tup [], .set i (.cells (es.take off ++ List.replicate len (zs.map ofCell) ++ es.drop (off + len)) true)) else none
    | _, _ => none
  | _, _ => none

theorem clear_ok {P : Program} {base : Nat} {F : Froz} {ι : Loc} {σ : Sto} {w : World} (hm : Mem P base F ι σ w) {T ty : TypeId} {d : PV} {a : Value} (ha : VR F ι d a) {v : PV} {act : SAct} (h : pClear P σ T d = some (v, act)) :
    ∃ y w', (Builtin.clear_ #[T] ty #[a]).run P w = .ok y w' ∧ VR F ι v y ∧ (∀ id, Mem P base F ι (act.app id σ) w') ∧ Below base w w' := by
  unfold pClear at h
  split at h
  · rename_i e sz by_ i e' off len hsl
    split at h
    · rename_i es zs hs0 hzr
      split at h
      · rename_i hc
        obtain ⟨rfl, hpos, hle, hzl, hone⟩ := hc
        simp only [Option.some.injEq, Prod.mk.injEq] at h
        obtain ⟨rfl, rfl⟩ := h
        obtain ⟨hu, inf, hi, hi1, hi2⟩ := slI_spec hsl
        obtain ⟨z, rfl, hzv⟩ := zrI_run (w := w) hzr
        have hzs : z.cells.size = sz := by simpa using hzl
        cases ha with
        | ownNil => omega
        | ownE => omega
        | own _ _ _ _ _ g sz' tot cap' hι hp0 hcap hl =>
          obtain ⟨_, _, l3, l4, _⟩ := hm.loc _ _ _ _ _ hι hp0
          have hszz : sz' = sz := by simp [szI, hi, hi1] at l4; exact l4.symm
          subst hszz
          have hzlen : (Builtin.zeroCells z.cells len).toList.length = len * sz' := by simp [Builtin.zeroCells, hzs]
          have hzget : ∀ k, k < len * sz' → (Builtin.zeroCells z.cells len).toList[k]? = some (z.cells.getD (k % sz') undef) := by
            intro k hk
            have hm' : k % sz' < z.cells.size := by rw [hzs]; exact Nat.mod_lt _ l3
            rw [Array.getElem?_toList]
            simp only [Builtin.zeroCells, hzs, Array.getElem?_map, Array.getElem?_range, hk, if_true, Option.map_some]
            rw [getElem!_pos z.cells (k % sz') hm']
            simp [Array.getD, hm']
          obtain ⟨w', r1, r2, r3⟩ := putEls hm hι hp0 hs0 (k := off) (news := List.replicate len (z.cells.toList.map ofCell)) (nv := (Builtin.zeroCells z.cells len).toList) (by simp; omega)
            (by intro cs hcs; rw [List.eq_of_mem_replicate hcs]; simp [hzs]) (by rw [hzlen]; simp)
            (by
              intro u hu'
              obtain ⟨k, hk, rfl⟩ := List.mem_iff_getElem.1 hu'
              have h1 := hzget k (by rw [← hzlen]; exact hk)
              rw [List.getElem?_eq_getElem hk] at h1
              injection h1 with h1
              rw [h1]
              have hm' : k % sz' < z.cells.size := by rw [hzs]; exact Nat.mod_lt _ l3
              have hgd : z.cells.getD (k % sz') undef = z.cells[k % sz'] := by simp [Array.getD, hm']
              rw [hgd]
              exact List.all_eq_true.1 hone _ (by simp))
            (by
              intro i' j cs p h1 h2
              have hlt : i' < len := by have := (List.getElem?_eq_some_iff.1 h1).1; simpa using this
              have hcs : cs = z.cells.toList.map ofCell := List.eq_of_mem_replicate (List.mem_of_getElem? h1)
              subst hcs
              have hjs : j < sz' := by have := (List.getElem?_eq_some_iff.1 h2).1; simp at this; omega
              have hb : i' * sz' + j < len * sz' := by
                have : (i' + 1) * sz' ≤ len * sz' := Nat.mul_le_mul_right _ hlt
                rw [Nat.succ_mul] at this; omega
              refine ⟨_, hzget _ hb, ?_⟩
              rw [Nat.mul_comm, Nat.mul_add_mod, Nat.mod_eq_of_lt hjs, getD_of_map h2]
              exact VR.ofCell _ _ _)
          simp only [List.length_replicate] at r2
          refine ⟨.tuple #[], w', ?_, .tup _ _ _ rfl (fun j p h => by simp at h), fun id => r2, r3⟩
          have hl0 : len ≠ 0 := by omega
          obtain ⟨k, rfl⟩ : ∃ k, len = k + 1 := ⟨len - 1, by omega⟩
          simp only [Builtin.clear_, Sem.run_bind, run_underlying hu, Result.andThen_ok, Sem.run_pure, List.getElem?_toArray, List.getElem?_cons_zero, hzv]
          rw [r1]
          rfl
      · cases h
    · cases h
  · cases h

/-! ### len -/
def pLen (P : Program) (σ : Sto) (T : TypeId) (a : PV) : Option PV :=
  match P.underlying T, a with
  | some (.slice _), .sl es => some (.v (.int .i64 es.length))
  | some (.slice _), .nilS => some (.v (.int .i64 0))
  | some (.slice _), .own _ _ _ len => some (.v (.int .i64 len))
  | some (.string), .v (.string s) => some (.v (.int .i64 s.size))
  | some (.map _ _), .mp id => match σ id with
    | some (.map ents _) => some (.v (.int .i64 ents.length))
    | _ => none
  | _, _ => none

theorem Mem.mapAt {P : Program} {base : Nat} {F : Froz} {ι : Loc} {σ : Sto} {w : World} (h : Mem P base F ι σ w) {i : Id} {b T s n : Nat} (hι : ι i = some (b, T, s, n)) (hp0 : 0 < s) {ents : List (Value × PV × Nat)} {clock : Nat} (hs : σ i = some (.map ents clock)) :
    ∃ arr, w.heap[b]? = some (.map arr clock) ∧ arr.size = ents.length ∧ ∀ (j : Nat) (k : Value) (p : PV) (n : Nat), ents[j]? = some (k, p, n) → ∃ x, arr[j]? = some ⟨k, x, n⟩ ∧ VR F ι p x := by
  rcases h.blk i _ hs with ⟨wr', T', h1, h2⟩ | ⟨b', T', s', n', h1, h0, h2, h3⟩
  · rw [h2] at hι
    simp only [Option.some.injEq, Prod.mk.injEq] at hι
    omega
  · rw [hι] at h1
    simp only [Option.some.injEq, Prod.mk.injEq] at h1
    obtain ⟨e1, e2, e3, e4⟩ := h1
    subst e1; subst e2; subst e3; subst e4
    exact h2

theorem len_ok {P : Program} {base : Nat} {F : Froz} {ι : Loc} {σ : Sto} {w : World} (hm : Mem P base F ι σ w) {T ty : TypeId} {d : PV} {a : Value} (ha : VR F ι d a) {v : PV} (h : pLen P σ T d = some v) :
    ∃ y, (Builtin.len_ #[T] ty #[a]).run P w = .ok y w ∧ VR F ι v y := by
  unfold pLen at h
  split at h
  · rename_i e es hu
    simp at h; subst h
    cases ha <;> exact ⟨_, by simp [Builtin.len_, run_underlying hu, goInt] <;> rfl, .v _ _⟩
  · rename_i e hu
    simp at h; subst h
    cases ha; exact ⟨_, by simp [Builtin.len_, run_underlying hu, goInt] <;> rfl, .v _ _⟩
  · rename_i e i e' off len hu
    simp at h; subst h
    cases ha <;> exact ⟨_, by simp [Builtin.len_, run_underlying hu, goInt] <;> rfl, .v _ _⟩
  · rename_i s hu
    simp at h; subst h
    cases ha; exact ⟨_, by simp [Builtin.len_, run_underlying hu, goInt] <;> rfl, .v _ _⟩
  · rename_i k e id hu
    split at h
    · rename_i ents clock hs
      simp at h; subst h
      cases ha with
      | mp _ _ b T' s n hι hp0 =>
        obtain ⟨arr, g1, g2, _⟩ := hm.mapAt hι hp0 hs
        refine ⟨.int .i64 arr.size, ?_, by rw [g2]; exact .v _ _⟩
        simp [Builtin.len_, run_underlying hu, getObj, Sem.run, g1, goInt]
    · cases h
  · cases h

/-! ### Comparisons with nil -/
/-- Is it nil? Where it can be told. -/
def pIsNil : TypeDesc → PV → Option Bool
  | .slice _, .nilS => some true
  | .slice _, .sl (_ :: _) => some false
  | .slice _, .own _ _ _ (_ + 1) => some false
  | .pointer _, .ptr _ _ _ => some false
  | .pointer _, .cptr _ _ => some false
  | .pointer _, .v (.pointer none) => some true
  | .map _ _, .mp _ => some false
  | .map _ _, .v (.map none) => some true
  | .interface _, .iface _ _ => some false
  | .interface _, .v .nilIface => some true
  | _, _ => none

/-- Is it the constant nil of such a type? -/
def isNilC : TypeDesc → PV → Bool
  | .slice _, .nilS => true
  | .pointer _, .v (.pointer none) => true
  | .map _ _, .v (.map none) => true
  | .interface _, .v .nilIface => true
  | _, _ => false

def pEqNil (P : Program) (op : BinOp) (T : TypeId) (x y : PV) : Option PV :=
  match P.underlying T with
  | some d => match op with
    | .eql => if isNilC d y then (pIsNil d x).map fun b => .v (.bool b) else none
    | .neq => if isNilC d y then (pIsNil d x).map fun b => .v (.bool !b) else none
    | _ => none
  | none => none

theorem equal_step (T : TypeId) (a b : Value) : ∃ d, Op.equal T a b = Op.equalIn (d + 1) T a b := ⟨9999, rfl⟩

theorem isNil_run {P : Program} {F : Froz} {ι : Loc} {w : World} {T : TypeId} {d : TypeDesc} (hu : P.underlying T = some d) {x y : PV} {a b : Value} (ha : VR F ι x a) (hb : VR F ι y b) {t : Bool} (h : pIsNil d x = some t) (hy : isNilC d y = true) :
    (Op.equal T a b).run P w = .ok t w ∧ (∀ op q1 c, (eqGuard op T q1 (.const c) a b).run P w = .ok () w) ∧
      (∀ op, (op = .eql ∨ op = .neq) → binOp op T a b = (do pure (.bool (← (if op = .eql then Op.equal T a b else (do pure (!(← Op.equal T a b)))))) : Sem Value)) := by
  have key : (∃ e, d = .slice e ∧ b = .slice none 0 0 ∧ ∃ A n c, a = .slice A n c ∧ A.isNone = t) ∨ (∃ e, d = .pointer e ∧ b = .pointer none ∧ ∃ A : Option Addr, a = .pointer A ∧ A.isNone = t) ∨
      (∃ k e, d = .map k e ∧ b = .map none ∧ ∃ A : Option Nat, a = .map A ∧ A.isNone = t) ∨ (∃ ms, d = .interface ms ∧ b = .nilIface ∧ ((a = .nilIface ∧ t = true) ∨ ∃ t' v, a = .iface t' v ∧ t = false)) := by
    unfold isNilC at hy
    unfold pIsNil at h
    split at hy
    · cases hb
      refine .inl ⟨_, rfl, rfl, ?_⟩
      split at h <;> simp at h <;> (try subst h) <;> rename_i he <;> (try cases he) <;> cases ha <;> first | exact ⟨_, _, _, rfl, rfl⟩ | (simp_all; done)
    · cases hb
      refine .inr (.inl ⟨_, rfl, rfl, ?_⟩)
      split at h <;> simp at h <;> (try subst h) <;> rename_i he <;> (try cases he) <;> cases ha <;> first | exact ⟨_, rfl, rfl⟩ | (simp_all; done)
    · cases hb
      refine .inr (.inr (.inl ⟨_, _, rfl, rfl, ?_⟩))
      split at h <;> simp at h <;> (try subst h) <;> rename_i he <;> (try cases he) <;> cases ha <;> first | exact ⟨_, rfl, rfl⟩ | (simp_all; done)
    · cases hb
      refine .inr (.inr (.inr ⟨_, rfl, rfl, ?_⟩))
      split at h <;> simp at h <;> (try subst h) <;> rename_i he <;> (try cases he) <;> cases ha <;> first | exact .inl ⟨rfl, rfl⟩ | exact .inr ⟨_, _, rfl, rfl⟩ | (simp_all; done)
    · cases hy
  obtain ⟨dd, hdd⟩ := equal_step T a b
  rcases key with ⟨e, rfl, rfl, A, n, c, rfl, rfl⟩ | ⟨e, rfl, rfl, A, rfl, rfl⟩ | ⟨k, e, rfl, rfl, A, rfl, rfl⟩ | ⟨ms, rfl, rfl, hcase⟩
  · refine ⟨?_, fun op q1 c' => ?_, fun op hop => ?_⟩
    · cases A <;> simp [hdd, Op.equalIn, run_underlying hu]
    · cases op <;> simp [eqGuard]
    · rcases hop with rfl | rfl <;> simp [binOp]
  · refine ⟨?_, fun op q1 c' => ?_, fun op hop => ?_⟩
    · cases A <;> simp [hdd, Op.equalIn, run_underlying hu]
    · cases op <;> simp [eqGuard]
    · rcases hop with rfl | rfl <;> simp [binOp]
  · refine ⟨?_, fun op q1 c' => ?_, fun op hop => ?_⟩
    · cases A <;> simp [hdd, Op.equalIn, run_underlying hu]
    · cases op <;> simp [eqGuard]
    · rcases hop with rfl | rfl <;> simp [binOp]
  · rcases hcase with ⟨rfl, rfl⟩ | ⟨t', v, rfl, rfl⟩
    · refine ⟨?_, fun op q1 c' => ?_, fun op hop => ?_⟩
      · simp [hdd, Op.equalIn, run_underlying hu]
      · cases op <;> simp [eqGuard]
      · rcases hop with rfl | rfl <;> simp [binOp]
    · refine ⟨?_, fun op q1 c' => ?_, fun op hop => ?_⟩
      · simp [hdd, Op.equalIn, run_underlying hu]
      · cases op <;> simp [eqGuard]
      · rcases hop with rfl | rfl <;> simp [binOp]

theorem eqNil_ok {P : Program} {F : Froz} {ι : Loc} {w : World} {op : BinOp} {T : TypeId} {x y : PV} {a b : Value} (ha : VR F ι x a) (hb : VR F ι y b) {v : PV} (h : pEqNil P op T x y = some v) (q1 : Operand) (c : Value) :
    ∃ z, (do eqGuard op T q1 (.const c) a b; binOp op T a b : Sem Value).run P w = .ok z w ∧ VR F ι v z := by
  unfold pEqNil at h
  split at h
  · rename_i d hu
    split at h
    · split at h
      · rename_i hy
        simp only [Option.map_eq_some_iff] at h
        obtain ⟨t, ht, rfl⟩ := h
        obtain ⟨h1, h2, h3⟩ := isNil_run (w := w) hu ha hb ht hy
        exact ⟨.bool t, by simp [h2, h3 .eql (.inl rfl), h1], .v _ _⟩
      · cases h
    · split at h
      · rename_i hy
        simp only [Option.map_eq_some_iff] at h
        obtain ⟨t, ht, rfl⟩ := h
        obtain ⟨h1, h2, h3⟩ := isNil_run (w := w) hu ha hb ht hy
        exact ⟨.bool !t, by simp [h2, h3 .neq (.inr rfl), h1], .v _ _⟩
      · cases h
    · cases h
  · cases h

end Go.PM
end

section
set_option linter.unusedSimpArgs false
set_option linter.unusedVariables false
set_option linter.constructorNameAsVariable false
/- Maps. -/
namespace Go.PM
open Go Go.RowKit

def plainKey : TypeDesc → Bool
  | .int _ | .string | .bool => true
  | _ => false
/-- A map's type: key, element, what the key's type is. -/
def mpI (P : Program) (T : TypeId) : Option (TypeId × TypeId × TypeDesc) :=
  match P.underlying T with
  | some (.map k e) => match P.underlying k with
    | some d => if plainKey d then some (k, e, d) else none
    | none => none
  | _ => none
def zvI (P : Program) (T : TypeId) : Option Value := (P.info? T).bind (·.zero)

def findP (d : TypeDesc) (k : Value) : List (Value × PV × Nat) → Nat → Option (Option Nat)
  | [], _ => some none
  | (k', _, _) :: r, i => match Instr.sameNow d k k' with
    | some true => some (some i)
    | some false => findP d k r (i + 1)
    | none => none

theorem mpI_spec {P : Program} {T k e : TypeId} {d : TypeDesc} (h : mpI P T = some (k, e, d)) : P.underlying T = some (.map k e) ∧ P.underlying k = some d ∧ plainKey d = true := by
  unfold mpI at h
  split at h
  · rename_i k' e' hu
    split at h
    · rename_i d' hd
      split at h
      · rename_i hp
        simp at h
        obtain ⟨rfl, rfl, rfl⟩ := h
        exact ⟨hu, hd, hp⟩
      · cases h
    · cases h
  · cases h

theorem findNow_eq (d : TypeDesc) (k : Value) : ∀ (ents : List (Value × PV × Nat)) (l : List MapEntry) (i : Nat) (r : Option Nat), l.length = ents.length →
    (∀ (j : Nat) (k : Value) (p : PV) (n : Nat), ents[j]? = some (k, p, n) → ∃ x, l[j]? = some ⟨k, x, n⟩) → findP d k ents i = some r →
    Instr.findNow d k l i = some (r.map fun j => (j, ((l[j - i]?).map (·.val)).getD undef)) ∧ ∀ j, r = some j → i ≤ j ∧ j - i < ents.length ∧ ∀ k' p n, ents[j - i]? = some (k', p, n) → Instr.sameNow d k k' = some true
  | [], l, i, r, hl, _, hf => by
    have : l = [] := List.eq_nil_of_length_eq_zero (by simpa using hl)
    subst this
    simp [findP] at hf
    subst hf
    exact ⟨rfl, fun j h => by cases h⟩
  | (k', p', n') :: rest, l, i, r, hl, hx, hf => by
    obtain ⟨x, hx0⟩ := hx 0 k' p' n' (by simp)
    cases l with
    | nil => simp at hx0
    | cons a l =>
      simp at hx0
      subst hx0
      unfold findP at hf
      unfold Instr.findNow
      split at hf
      · rename_i hs
        simp at hf
        subst hf
        simp only [hs]
        exact ⟨by simp, fun j hj => by
          injection hj with hj
          subst hj
          exact ⟨Nat.le_refl _, by simp, fun k'' p n h => by simp at h; obtain ⟨rfl, _, _⟩ := h; exact hs⟩⟩
      · rename_i hs
        simp only [hs]
        obtain ⟨h1, h2⟩ := findNow_eq d k rest l (i + 1) r (by simpa using hl) (fun j k p n hj => by have := hx (j + 1) k p n (by simpa using hj); simpa using this) hf
        refine ⟨?_, fun j hj => ?_⟩
        · rw [h1]
          cases r with
          | none => rfl
          | some j =>
            obtain ⟨g1, g2, _⟩ := h2 j rfl
            simp only [Option.map_some]
            rw [show j - i = (j - (i + 1)) + 1 by omega, List.getElem?_cons_succ]
        · obtain ⟨g1, g2, g3⟩ := h2 j hj
          refine ⟨by omega, by simp; omega, fun k'' p n h => ?_⟩
          rw [show j - i = (j - (i + 1)) + 1 by omega, List.getElem?_cons_succ] at h
          exact g3 _ _ _ h
      · cases hf

theorem run_checkKey_plain {P : Program} {w : World} {t : TypeId} {d : TypeDesc} (hu : P.underlying t = some d) (hp : plainKey d = true) (em : Bool) (v : Value) : (Instr.checkKey em 10000 t v).run P w = .ok () w := by
  have : ∀ n, (Instr.checkKey em (n + 1) t v).run P w = .ok () w := by
    intro n
    unfold Instr.checkKey
    cases d <;> first | (simp [plainKey] at hp; done) | simp [run_under hu]
  exact this 9999

theorem run_findKey {P : Program} {w : World} {t : TypeId} {d : TypeDesc} (hu : P.underlying t = some d) {k : Value} {l : List MapEntry} {r : Option (Nat × Value)} (h : Instr.findNow d k l 0 = some r) : (Instr.findKey t k l).run P w = .ok r w := by
  simp [Instr.findKey, run_under hu, h]

theorem sameNow_eq {d : TypeDesc} {k k' : Value} (h : Instr.sameNow d k k' = some true) : k' = k ∧ Instr.sameBits 10000 k' k = true := by
  unfold Instr.sameNow at h
  split at h
  · split at h
    · rename_i hk
      simp at h
      subst hk; subst h
      exact ⟨rfl, by simp [Instr.sameBits]⟩
    · cases h
  · rename_i a b
    injection h with h
    have hab : a = b := by
      obtain ⟨x⟩ := a
      obtain ⟨y⟩ := b
      have hd : (x == y) = true := h
      rw [eq_of_beq hd]
    subst hab
    exact ⟨rfl, by simpa [Instr.sameBits] using h⟩
  · simp at h
    subst h
    exact ⟨rfl, by simp [Instr.sameBits]⟩
  · cases h

theorem run_getMap {P : Program} {w : World} {b : Nat} {arr : Array MapEntry} {clock : Nat} (h : w.heap[b]? = some (.map arr clock)) : (getObj b).run P w = .ok (.map arr clock) w := by simp [getObj, Sem.run, h]
theorem run_setMap {P : Program} {w : World} {b : Nat} {arr : Array MapEntry} {clock : Nat} (h : w.heap[b]? = some (.map arr clock)) (o : Obj) : (setObj b o).run P w = .ok () (putBlk w b o) := by simp [setObj, Sem.run, h, putBlk]

/-! ### lookup -/
def pLookup (P : Program) (σ : Sto) (T : TypeId) (m k : PV) (ok : Bool) : Option PV :=
  match mpI P T, toV k with
  | some (_, e, d), some kv => match zvI P e, m with
    | some z, .mp id => match σ id with
      | some (.map ents _) => match findP d kv ents 0 with
        | some (some j) => match ents[j]? with
          | some (_, p, _) => some (if ok then .tup [p, .v (.bool true)] else p)
          | none => none
        | some none => some (if ok then .tup [ofValue z, .v (.bool false)] else ofValue z)
        | none => none
      | _ => none
    | some z, .v (.map none) => some (if ok then .tup [ofValue z, .v (.bool false)] else ofValue z)
    | _, _ => none
  | _, _ => none

theorem VR.tup2 {F : Froz} {ι : Loc} {p q : PV} {x y : Value} (h : VR F ι p x) (k : VR F ι q y) : VR F ι (.tup [p, q]) (.tuple #[x, y]) :=
  .tup _ _ _ rfl fun j r hj => by
    match j, hj with
    | 0, hj => simp at hj; subst hj; exact h
    | 1, hj => simp at hj; subst hj; exact k

theorem lookup_ok {P : Program} {base : Nat} {F : Froz} {ι : Loc} {σ : Sto} {w : World} (hm : Mem P base F ι σ w) {T : TypeId} {m k : PV} {x y : Value} (hx : VR F ι m x) (hy : VR F ι k y) {ok : Bool} {v : PV} (h : pLookup P σ T m k ok = some v) :
    ∃ z, (Instr.lookup T x y ok).run P w = .ok z w ∧ VR F ι v z := by
  unfold pLookup at h
  split at h
  · rename_i kt e d kv hmp hkv
    obtain ⟨hu, hd, hp⟩ := mpI_spec hmp
    have hyk : y = kv := hy.toV hkv
    subst hyk
    split at h
    · rename_i z id hz
      split at h
      · rename_i ents clock hs
        cases hx with
        | mp _ _ b T' s n hι hp0 =>
          obtain ⟨arr, g1, g2, g3⟩ := hm.mapAt hι hp0 hs
          have hfind : ∀ r, findP d y ents 0 = some r → (Instr.findKey kt y arr.toList).run P w = .ok (r.map fun j => (j, ((arr.toList[j]?).map (·.val)).getD undef)) w ∧ ∀ j, r = some j → j < ents.length := by
            intro r hr
            obtain ⟨h1, h2⟩ := findNow_eq d y ents arr.toList 0 r (by simpa using g2) (fun j k p n hj => by obtain ⟨x, hx, _⟩ := g3 j k p n hj; exact ⟨x, by rw [Array.getElem?_toList]; exact hx⟩) hr
            exact ⟨run_findKey hd (by simpa using h1), fun j hj => by have := (h2 j hj).2.1; simpa using this⟩
          have hck := fun em => run_checkKey_plain (w := w) hd hp em y
          split at h
          · rename_i j hf
            split at h
            · rename_i k' p n' hj
              simp at h; subst h
              obtain ⟨xv, hxv, hvr⟩ := g3 j k' p n' hj
              obtain ⟨h1, _⟩ := hfind _ hf
              have hval : ((arr.toList[j]?).map (·.val)).getD undef = xv := by rw [Array.getElem?_toList, hxv]; rfl
              refine ⟨if ok then .tuple #[xv, .bool true] else xv, ?_, by cases ok <;> first | exact hvr | exact hvr.tup2 (.v _ _)⟩
              simp only [Option.map_some, hval] at h1
              simp [Instr.lookup, run_under hu, run_getMap g1, hck, h1]
            · cases h
          · rename_i hf
            simp at h; subst h
            obtain ⟨h1, _⟩ := hfind _ hf
            have hzr : (zeroValue e).run P w = .ok z w := by
              simp only [zvI, Option.bind_eq_some_iff] at hz
              obtain ⟨i, hi, hz⟩ := hz
              simp [zeroValue, run_info hi, hz]
            refine ⟨if ok then .tuple #[z, .bool false] else z, ?_, by cases ok <;> first | exact VR.ofValue _ _ _ | exact (VR.ofValue _ _ _).tup2 (.v _ _)⟩
            simp only [Option.map_none] at h1
            simp [Instr.lookup, run_under hu, run_getMap g1, hck, h1, hzr]
          · cases h
      · cases h
    · rename_i z hz
      simp at h; subst h
      cases hx
      have hzr : (zeroValue e).run P w = .ok z w := by
        simp only [zvI, Option.bind_eq_some_iff] at hz
        obtain ⟨i, hi, hz⟩ := hz
        simp [zeroValue, run_info hi, hz]
      have hck := fun em => run_checkKey_plain (w := w) hd hp em y
      refine ⟨if ok then .tuple #[z, .bool false] else z, ?_, by cases ok <;> first | exact VR.ofValue _ _ _ | exact (VR.ofValue _ _ _).tup2 (.v _ _)⟩
      have h1 : (Instr.findKey kt y []).run P w = .ok none w := run_findKey hd (by simp [Instr.findNow])
      simp [Instr.lookup, run_under hu, hck, h1, hzr]
    · cases h
  · cases h

/-! ### Writing -/
theorem Mem.putMap {P : Program} {base : Nat} {F : Froz} {ι : Loc} {σ : Sto} {w : World} (hm : Mem P base F ι σ w) {i : Id} {b T s n : Nat} (hι : ι i = some (b, T, s, n)) (hp0 : 0 < s) {ents : List (Value × PV × Nat)} {clock : Nat} (hs : σ i = some (.map ents clock))
    (arr' : Array MapEntry) (ents' : List (Value × PV × Nat)) (clock' : Nat) (hl : arr'.size = ents'.length)
    (hv : ∀ (j : Nat) (k : Value) (p : PV) (n : Nat), ents'[j]? = some (k, p, n) → ∃ x, arr'[j]? = some ⟨k, x, n⟩ ∧ VR F ι p x) :
    Mem P base F ι (upd σ i (some (.map ents' clock'))) (putBlk w b (.map arr' clock')) ∧ Below base w (putBlk w b (.map arr' clock')) := by
  obtain ⟨arr, g1, g2, g3⟩ := hm.mapAt hι hp0 hs
  refine hm.put hs hι hp0 _ _ ?_ ⟨arr', putBlk_same w _ (lt_of_blk g1), hl, hv⟩ trivial
  intro k x hx
  have := hm.val _ _ _ hx
  simp [World.cell?, g1] at this

def pMapUpdate (P : Program) (σ : Sto) (T : TypeId) (m k x : PV) : Option (PV × SAct) :=
  match mpI P T, toV k, m with
  | some (_, _, d), some kv, .mp id => match σ id with
    | some (.map ents clock) => match findP d kv ents 0 with
      | some (some j) => match ents[j]? with
        | some (k', _, n) => some (.tup [], .set id (.map (ents.set j (k', x, n)) clock))
        | none => none
      | some none => some (.tup [], .set id (.map (ents ++ [(kv, x, clock)]) (clock + 1)))
      | none => none
    | _ => none
  | _, _, _ => none

theorem map_find {P : Program} {F : Froz} {ι : Loc} {w : World} {kt : TypeId} {d : TypeDesc} (hd : P.underlying kt = some d) {ents : List (Value × PV × Nat)} {arr : Array MapEntry} (g2 : arr.size = ents.length)
    (g3 : ∀ (j : Nat) (k : Value) (p : PV) (n : Nat), ents[j]? = some (k, p, n) → ∃ x, arr[j]? = some ⟨k, x, n⟩ ∧ VR F ι p x) {y : Value} {r : Option Nat} (hr : findP d y ents 0 = some r) :
    (Instr.findKey kt y arr.toList).run P w = .ok (r.map fun j => (j, ((arr[j]?).map (·.val)).getD undef)) w ∧ ∀ j, r = some j → j < ents.length ∧ ∀ k' p n, ents[j]? = some (k', p, n) → k' = y ∧ Instr.sameBits 10000 k' y = true := by
  obtain ⟨h1, h2⟩ := findNow_eq d y ents arr.toList 0 r (by simpa using g2) (fun j k p n hj => by obtain ⟨x, hx, _⟩ := g3 j k p n hj; exact ⟨x, by rw [Array.getElem?_toList]; exact hx⟩) hr
  refine ⟨run_findKey hd (by simpa using h1), fun j hj => ?_⟩
  obtain ⟨_, a2, a3⟩ := h2 j hj
  exact ⟨by simpa using a2, fun k' p n hk => sameNow_eq (a3 k' p n (by simpa using hk))⟩

theorem mapUpdate_ok {P : Program} {base : Nat} {F : Froz} {ι : Loc} {σ : Sto} {w : World} (hm : Mem P base F ι σ w) {T : TypeId} {m k p : PV} {x y z : Value} (hx : VR F ι m x) (hy : VR F ι k y) (hz : VR F ι p z) {v : PV} {act : SAct} (h : pMapUpdate P σ T m k p = some (v, act)) :
    v = .tup [] ∧ ∃ w', (Instr.mapUpdate T x y z).run P w = .ok () w' ∧ (∀ id, Mem P base F ι (act.app id σ) w') ∧ Below base w w' := by
  unfold pMapUpdate at h
  split at h
  · rename_i kt e d kv id hmp hkv
    obtain ⟨hu, hd, hp⟩ := mpI_spec hmp
    have hyk : y = kv := hy.toV hkv
    subst hyk
    split at h
    · rename_i ents clock hs
      cases hx with
      | mp _ _ b T' s n hι hp0 =>
        obtain ⟨arr, g1, g2, g3⟩ := hm.mapAt hι hp0 hs
        have hck := fun em => run_checkKey_plain (w := w) hd hp em y
        split at h
        · rename_i j hf
          split at h
          · rename_i k' q n' hj
            simp only [Option.some.injEq, Prod.mk.injEq] at h
            obtain ⟨rfl, rfl⟩ := h
            obtain ⟨h1, h2⟩ := map_find (w := w) hd g2 g3 hf
            obtain ⟨hjl, hsame⟩ := h2 j rfl
            obtain ⟨rfl, hbits⟩ := hsame k' q n' hj
            obtain ⟨xv, hxv, hvr⟩ := g3 j k' q n' hj
            have hja : j < arr.size := by omega
            have hpm := hm.putMap hι hp0 hs (arr.modify j fun e => { e with key := k', val := z }) (ents.set j (k', p, n')) clock (by simp [g2]) (by
              intro i k2 p2 n2 hi
              rw [Array.getElem?_modify]
              by_cases hij : j = i
              · subst hij
                rw [List.getElem?_set_self hjl] at hi
                simp at hi
                obtain ⟨rfl, rfl, rfl⟩ := hi
                exact ⟨z, by simp [hxv], hz⟩
              · rw [List.getElem?_set_ne hij] at hi
                rw [if_neg hij]
                exact g3 i k2 p2 n2 hi)
            refine ⟨rfl, _, ?_, fun _ => hpm.1, hpm.2⟩
            simp only [Option.map_some, hxv, Option.getD_some] at h1
            simp [Instr.mapUpdate, run_under hu, run_getMap g1, hck, h1, Instr.keyThatStays, hxv, hbits, run_setMap g1]
          · cases h
        · rename_i hf
          simp only [Option.some.injEq, Prod.mk.injEq] at h
          obtain ⟨rfl, rfl⟩ := h
          obtain ⟨h1, _⟩ := map_find (w := w) hd g2 g3 hf
          have hpm := hm.putMap hι hp0 hs (arr.push ⟨y, z, clock⟩) (ents ++ [(y, p, clock)]) (clock + 1) (by simp [g2]) (by
            intro i k2 p2 n2 hi
            rw [Array.getElem?_push]
            by_cases hij : i = arr.size
            · rw [if_pos hij]
              rw [List.getElem?_append_right (by omega)] at hi
              rw [show i - ents.length = 0 by omega] at hi
              simp at hi
              obtain ⟨rfl, rfl, rfl⟩ := hi
              exact ⟨z, rfl, hz⟩
            · rw [if_neg hij]
              rcases Nat.lt_or_ge i ents.length with hl | hl
              · rw [List.getElem?_append_left hl] at hi
                exact g3 i k2 p2 n2 hi
              · rw [List.getElem?_append_right hl] at hi
                have : i - ents.length ≠ 0 := by omega
                obtain ⟨q, hq⟩ : ∃ q, i - ents.length = q + 1 := ⟨i - ents.length - 1, by omega⟩
                rw [hq] at hi
                simp at hi)
          refine ⟨rfl, _, ?_, fun _ => hpm.1, hpm.2⟩
          simp only [Option.map_none] at h1
          simp [Instr.mapUpdate, run_under hu, run_getMap g1, hck, h1, run_setMap g1]
        · cases h
    · cases h
  · cases h

def pMapEntry (P : Program) (σ : Sto) (T : TypeId) (m k : PV) : Option (PV × SAct) :=
  match mpI P T, toV k, m with
  | some (_, e, d), some kv, .mp id => match σ id with
    | some (.map ents clock) => match findP d kv ents 0 with
      | some (some j) => match ents[j]? with
        | some (_, q, n) => some (.tup [q, .v (.int .i64 n)], .set id (.map ents clock))
        | none => none
      | some none => match zvI P e with
        | some z => some (.tup [ofValue z, .v (.int .i64 clock)], .set id (.map (ents ++ [(kv, ofValue z, clock)]) (clock + 1)))
        | none => none
      | none => none
    | _ => none
  | _, _, _ => none

theorem mapEntry_ok {P : Program} {base : Nat} {F : Froz} {ι : Loc} {σ : Sto} {w : World} (hm : Mem P base F ι σ w) {T : TypeId} {m k : PV} {x y : Value} (hx : VR F ι m x) (hy : VR F ι k y) {v : PV} {act : SAct} (h : pMapEntry P σ T m k = some (v, act)) :
    ∃ u w', (Instr.mapEntry T x y).run P w = .ok u w' ∧ VR F ι v u ∧ (∀ id, Mem P base F ι (act.app id σ) w') ∧ Below base w w' := by
  unfold pMapEntry at h
  split at h
  · rename_i kt e d kv id hmp hkv
    obtain ⟨hu, hd, hp⟩ := mpI_spec hmp
    have hyk : y = kv := hy.toV hkv
    subst hyk
    split at h
    · rename_i ents clock hs
      cases hx with
      | mp _ _ b T' s n hι hp0 =>
        obtain ⟨arr, g1, g2, g3⟩ := hm.mapAt hι hp0 hs
        have hck := fun em => run_checkKey_plain (w := w) hd hp em y
        split at h
        · rename_i j hf
          split at h
          · rename_i k' q n' hj
            simp only [Option.some.injEq, Prod.mk.injEq] at h
            obtain ⟨rfl, rfl⟩ := h
            obtain ⟨h1, h2⟩ := map_find (w := w) hd g2 g3 hf
            obtain ⟨hjl, hsame⟩ := h2 j rfl
            obtain ⟨rfl, hbits⟩ := hsame k' q n' hj
            obtain ⟨xv, hxv, hvr⟩ := g3 j k' q n' hj
            have hpm := hm.putMap hι hp0 hs (arr.modify j fun e => { e with key := k' }) ents clock (by simp [g2]) (by
              intro i k2 p2 n2 hi
              rw [Array.getElem?_modify]
              by_cases hij : j = i
              · subst hij
                rw [hj] at hi
                simp at hi
                obtain ⟨rfl, rfl, rfl⟩ := hi
                exact ⟨xv, by simp [hxv], hvr⟩
              · rw [if_neg hij]
                exact g3 i k2 p2 n2 hi)
            refine ⟨.tuple #[xv, goInt n'], _, ?_, hvr.tup2 (.v _ _), fun _ => hpm.1, hpm.2⟩
            simp only [Option.map_some, hxv, Option.getD_some] at h1
            simp [Instr.mapEntry, run_under hu, run_getMap g1, hck, h1, Instr.keyThatStays, hxv, hbits, run_setMap g1]
          · cases h
        · rename_i hf
          split at h
          · rename_i zv hzv
            simp only [Option.some.injEq, Prod.mk.injEq] at h
            obtain ⟨rfl, rfl⟩ := h
            obtain ⟨h1, _⟩ := map_find (w := w) hd g2 g3 hf
            have hzr : (zeroValue e).run P w = .ok zv w := by
              simp only [zvI, Option.bind_eq_some_iff] at hzv
              obtain ⟨i, hi, hz⟩ := hzv
              simp [zeroValue, run_info hi, hz]
            have hpm := hm.putMap hι hp0 hs (arr.push ⟨y, zv, clock⟩) (ents ++ [(y, ofValue zv, clock)]) (clock + 1) (by simp [g2]) (by
              intro i k2 p2 n2 hi
              rw [Array.getElem?_push]
              by_cases hij : i = arr.size
              · rw [if_pos hij]
                rw [List.getElem?_append_right (by omega)] at hi
                rw [show i - ents.length = 0 by omega] at hi
                simp at hi
                obtain ⟨rfl, rfl, rfl⟩ := hi
                exact ⟨zv, rfl, VR.ofValue _ _ _⟩
              · rw [if_neg hij]
                rcases Nat.lt_or_ge i ents.length with hl | hl
                · rw [List.getElem?_append_left hl] at hi
                  exact g3 i k2 p2 n2 hi
                · rw [List.getElem?_append_right hl] at hi
                  obtain ⟨q, hq⟩ : ∃ q, i - ents.length = q + 1 := ⟨i - ents.length - 1, by omega⟩
                  rw [hq] at hi
                  simp at hi)
            refine ⟨.tuple #[zv, goInt clock], _, ?_, (VR.ofValue _ _ _).tup2 (.v _ _), fun _ => hpm.1, hpm.2⟩
            simp only [Option.map_none] at h1
            simp [Instr.mapEntry, run_under hu, run_getMap g1, hck, h1, run_setMap g1, hzr]
          · cases h
        · cases h
    · cases h
  · cases h

def pEntryStore (σ : Sto) (m s x : PV) : Option (PV × SAct) :=
  match m, s with
  | .mp id, .v (.int _ b) => match σ id with
    | some (.map ents clock) => match ents.findIdx? (fun e => (e.2.2 : Int) == b) with
      | some j => match ents[j]? with
        | some (k', _, n) => some (.tup [], .set id (.map (ents.set j (k', x, n)) clock))
        | none => none
      | none => none
    | _ => none
  | _, _ => none

theorem findIdx_eq {F : Froz} {ι : Loc} {b : Int} : ∀ (ents : List (Value × PV × Nat)) (l : List MapEntry), l.length = ents.length →
    (∀ (j : Nat) (k : Value) (p : PV) (n : Nat), ents[j]? = some (k, p, n) → ∃ x, l[j]? = some ⟨k, x, n⟩ ∧ VR F ι p x) → l.findIdx? (fun e => (e.born : Int) == b) = ents.findIdx? (fun e => (e.2.2 : Int) == b)
  | [], l, hl, _ => by
    have : l = [] := List.eq_nil_of_length_eq_zero (by simpa using hl)
    subst this
    rfl
  | (k, p, n) :: r, l, hl, h => by
    obtain ⟨x, hx, _⟩ := h 0 k p n (by simp)
    cases l with
    | nil => simp at hx
    | cons a l =>
      simp at hx
      subst hx
      simp only [List.findIdx?_cons]
      rw [findIdx_eq r l (by simpa using hl) (fun j k p n hj => by have := h (j + 1) k p n (by simpa using hj); simpa using this)]

theorem entryStore_ok {P : Program} {base : Nat} {F : Froz} {ι : Loc} {σ : Sto} {w : World} (hm : Mem P base F ι σ w) {T : TypeId} {m s p : PV} {x y z : Value} (hx : VR F ι m x) (hy : VR F ι s y) (hz : VR F ι p z) {v : PV} {act : SAct} (h : pEntryStore σ m s p = some (v, act)) :
    v = .tup [] ∧ ∃ w', (Instr.entryStore T x y z).run P w = .ok () w' ∧ (∀ id, Mem P base F ι (act.app id σ) w') ∧ Below base w w' := by
  unfold pEntryStore at h
  split at h
  · rename_i id k b
    cases hy
    split at h
    · rename_i ents clock hs
      cases hx with
      | mp _ _ b' T' s n hι hp0 =>
        obtain ⟨arr, g1, g2, g3⟩ := hm.mapAt hι hp0 hs
        split at h
        · rename_i j hj
          split at h
          · rename_i k' q n' hjj
            simp only [Option.some.injEq, Prod.mk.injEq] at h
            obtain ⟨rfl, rfl⟩ := h
            obtain ⟨xv, hxv, hvr⟩ := g3 j k' q n' hjj
            have hjl := (List.getElem?_eq_some_iff.1 hjj).1
            have hpm := hm.putMap hι hp0 hs (arr.modify j fun e => { e with val := z }) (ents.set j (k', p, n')) clock (by simp [g2]) (by
              intro i k2 p2 n2 hi
              rw [Array.getElem?_modify]
              by_cases hij : j = i
              · subst hij
                rw [List.getElem?_set_self hjl] at hi
                simp at hi
                obtain ⟨rfl, rfl, rfl⟩ := hi
                exact ⟨z, by simp [hxv], hz⟩
              · rw [List.getElem?_set_ne hij] at hi
                rw [if_neg hij]
                exact g3 i k2 p2 n2 hi)
            have hidx : arr.findIdx? (fun e => (e.born : Int) == b) = some j := by
              rw [← hj, ← findIdx_eq (F := F) (ι := ι) (b := b) ents arr.toList (by simpa using g2) (fun j k p n hj => by
                obtain ⟨x, hx, hv⟩ := g3 j k p n hj; exact ⟨x, by rw [Array.getElem?_toList]; exact hx, hv⟩)]
              rw [← List.findIdx?_toArray, Array.toArray_toList]
            refine ⟨rfl, _, ?_, fun _ => hpm.1, hpm.2⟩
            simp [Instr.entryStore, run_getMap g1, asInt, asIntOf, hidx, run_setMap g1]
          · cases h
        · cases h
    · cases h
  · cases h

def pDelete (P : Program) (σ : Sto) (T : TypeId) (m k : PV) : Option (PV × SAct) :=
  match mpI P T, toV k, m with
  | some (_, _, d), some kv, .mp id => match σ id with
    | some (.map ents clock) => match findP d kv ents 0 with
      | some (some j) => some (.tup [], .set id (.map (ents.eraseIdx j) clock))
      | some none => some (.tup [], .set id (.map ents clock))
      | none => none
    | _ => none
  | _, _, _ => none

theorem delete_ok {P : Program} {base : Nat} {F : Froz} {ι : Loc} {σ : Sto} {w : World} (hm : Mem P base F ι σ w) {T T2 ty : TypeId} {m k : PV} {x y : Value} (hx : VR F ι m x) (hy : VR F ι k y) {v : PV} {act : SAct} (h : pDelete P σ T m k = some (v, act)) :
    ∃ u w', (Builtin.delete_ #[T, T2] ty #[x, y]).run P w = .ok u w' ∧ VR F ι v u ∧ (∀ id, Mem P base F ι (act.app id σ) w') ∧ Below base w w' := by
  unfold pDelete at h
  split at h
  · rename_i kt e d kv id hmp hkv
    obtain ⟨hu, hd, hp⟩ := mpI_spec hmp
    have hyk : y = kv := hy.toV hkv
    subst hyk
    split at h
    · rename_i ents clock hs
      cases hx with
      | mp _ _ b T' s n hι hp0 =>
        obtain ⟨arr, g1, g2, g3⟩ := hm.mapAt hι hp0 hs
        have hck := fun em => run_checkKey_plain (w := w) hd hp em y
        split at h
        · rename_i j hf
          simp only [Option.some.injEq, Prod.mk.injEq] at h
          obtain ⟨rfl, rfl⟩ := h
          obtain ⟨h1, h2⟩ := map_find (w := w) hd g2 g3 hf
          obtain ⟨hjl, _⟩ := h2 j rfl
          have hja : j < arr.size := by omega
          have hpm := hm.putMap hι hp0 hs (arr.eraseIdxIfInBounds j) (ents.eraseIdx j) clock (by simp [Array.eraseIdxIfInBounds, List.length_eraseIdx, hjl, g2]) (by
            intro i k2 p2 n2 hi
            rw [List.getElem?_eraseIdx] at hi
            simp only [Array.eraseIdxIfInBounds, hja, dif_pos]
            rw [Array.getElem?_eraseIdx]
            by_cases hij : i < j
            · rw [if_pos hij] at hi ⊢
              exact g3 i k2 p2 n2 hi
            · rw [if_neg hij] at hi ⊢
              exact g3 _ k2 p2 n2 hi)
          refine ⟨.tuple #[], _, ?_, .tup _ _ _ rfl (fun j p h => by simp at h), fun _ => hpm.1, hpm.2⟩
          simp only [Option.map_some] at h1
          simp [Builtin.delete_, run_under hu, run_getMap g1, hck, h1, run_setMap g1]
        · rename_i hf
          simp only [Option.some.injEq, Prod.mk.injEq] at h
          obtain ⟨rfl, rfl⟩ := h
          obtain ⟨h1, _⟩ := map_find (w := w) hd g2 g3 hf
          have hpm := hm.putMap hι hp0 hs arr ents clock g2 g3
          refine ⟨.tuple #[], _, ?_, .tup _ _ _ rfl (fun j p h => by simp at h), fun _ => hpm.1, hpm.2⟩
          simp only [Option.map_none] at h1
          simp [Builtin.delete_, run_under hu, run_getMap g1, hck, h1, run_setMap g1]
        · cases h
    · cases h
  · cases h

end Go.PM
end

section
set_option linter.unusedSimpArgs false
set_option linter.unusedVariables false
set_option linter.constructorNameAsVariable false
/- What is handed to a function by value is never written again: freezing. -/
namespace Go.PM
open Go Go.RowKit

def mapO {α β : Type} (f : α → Option β) : List α → Option (List β)
  | [] => some []
  | a :: r => match f a, mapO f r with
    | some b, some bs => some (b :: bs)
    | _, _ => none

theorem mapO_get {α β : Type} {f : α → Option β} : ∀ {l : List α} {bs : List β}, mapO f l = some bs → bs.length = l.length ∧ ∀ (j : Nat) (b : β), bs[j]? = some b → ∃ a, l[j]? = some a ∧ f a = some b
  | [], bs, h => by
    simp [mapO] at h; subst h
    exact ⟨rfl, fun j b hj => by simp at hj⟩
  | a :: r, bs, h => by
    unfold mapO at h
    split at h
    · rename_i b bs' h1 h2
      simp at h; subst h
      obtain ⟨g1, g2⟩ := mapO_get h2
      refine ⟨by simp [g1], fun j b' hj => ?_⟩
      cases j with
      | zero => simp at hj; subst hj; exact ⟨a, by simp, h1⟩
      | succ j => simp at hj; obtain ⟨a', ha, hf⟩ := g2 j b' hj; exact ⟨a', by simpa using ha, hf⟩
    · cases h

theorem mapO_map {α β : Type} {f : α → Option β} {g : α → β} (l : List α) (h : ∀ a ∈ l, f a = some (g a)) : mapO f l = some (l.map g) := by
  induction l with
  | nil => rfl
  | cons a r ih =>
    unfold mapO
    rw [h a (by simp), ih (fun a ha => h a (by simp [ha]))]
    rfl

theorem mapO_self {α : Type} {f : α → Option α} (l : List α) (h : ∀ a ∈ l, f a = some a) : mapO f l = some l := by
  have := mapO_map (g := id) l h
  simpa using this

def frz : Nat → Sto → PV → Option PV
  | 0, _, _ => none
  | n + 1, σ, p => match p with
    | .v x => some (.v x)
    | .nilS => some (.sl [])
    | .sl es => some (.sl es)
    | .cptr cs off => some (.cptr cs off)
    | .own id _ off len => match σ id with
      | some (.cells es _) => if off + len ≤ es.length then (mapO (fun cs => mapO (frz n σ) cs) ((es.drop off).take len)).map .sl else none
      | _ => none
    | .agg cs => (mapO (frz n σ) cs).map .agg
    | .tup cs => (mapO (frz n σ) cs).map .tup
    | .iface t q => (frz n σ q).map (.iface t)
    | .fn f a b => match mapO (frz n σ) a, mapO (frz n σ) b with
      | some a', some b' => some (.fn f a' b')
      | _, _ => none
    | _ => none

/-- Which blocks are met. -/
def frzIds : Nat → Sto → PV → List Id
  | 0, _, _ => []
  | n + 1, σ, p => match p with
    | .own id _ off len => id :: match σ id with
      | some (.cells es _) => (((es.drop off).take len).flatMap fun cs => cs.flatMap (frzIds n σ))
      | _ => []
    | .agg cs => cs.flatMap (frzIds n σ)
    | .tup cs => cs.flatMap (frzIds n σ)
    | .iface _ q => frzIds n σ q
    | .fn _ a b => a.flatMap (frzIds n σ) ++ b.flatMap (frzIds n σ)
    | _ => []

def mark (σ : Sto) (ids : List Id) : Sto := fun j => if j ∈ ids then (match σ j with | some (.cells es _) => some (.cells es false) | x => x) else σ j

theorem mark_nil (σ : Sto) : mark σ [] = σ := by funext j; simp [mark]

open Classical in
/-- What is known behind it. -/
noncomputable def Fz (F : Froz) (ι : Loc) (σ : Sto) (w : World) (ids : List Id) : Froz := fun b o =>
  if (∃ id T s n es wr, id ∈ ids ∧ ι id = some (b, T, s, n) ∧ 0 < s ∧ σ id = some (.cells es wr) ∧ o < es.length * s) then w.cell? ⟨b, o, none⟩ else F b o

theorem Fz_old {P : Program} {base : Nat} {F : Froz} {ι : Loc} {σ : Sto} {w : World} (hm : Mem P base F ι σ w) (ids : List Id) (b o : Nat) (x : Value) (h : F b o = some x) : Fz F ι σ w ids b o = some x := by
  unfold Fz
  split
  · exact hm.val _ _ _ h
  · exact h

/-- Below the call's own blocks nothing more is known. -/
theorem Fz_low {P : Program} {base : Nat} {F : Froz} {ι : Loc} {σ : Sto} {w : World} (hm : Mem P base F ι σ w) (ids : List Id) (b o : Nat) (h : b < base) : Fz F ι σ w ids b o = F b o := by
  unfold Fz
  split
  · rename_i h'
    obtain ⟨id, T, s, n, es, wr, _, hι, hs, _⟩ := h'
    have := (hm.loc id b T s n hι hs).1
    omega
  · rfl

theorem Fz_val {P : Program} {base : Nat} {F : Froz} {ι : Loc} {σ : Sto} {w : World} (hm : Mem P base F ι σ w) (ids : List Id) (b o : Nat) (x : Value) (h : Fz F ι σ w ids b o = some x) : w.cell? ⟨b, o, none⟩ = some x := by
  unfold Fz at h
  split at h
  · exact h
  · exact hm.val _ _ _ h

theorem Mem.mark {P : Program} {base : Nat} {F : Froz} {ι : Loc} {σ : Sto} {w : World} (hm : Mem P base F ι σ w) (ids : List Id) : Mem P base (Fz F ι σ w ids) ι (mark σ ids) w := by
  have hg : Grow F (Fz F ι σ w ids) ι ι := ⟨fun b o x h => Fz_old hm ids b o x h, fun _ _ h => h⟩
  have hmk : ∀ id B, PM.mark σ ids id = some B → ∃ B0, σ id = some B0 ∧ (B = B0 ∧ id ∉ ids ∨ (∃ es wr, B0 = .cells es wr ∧ B = .cells es false) ∨ (∃ en cl, B0 = .map en cl ∧ B = B0)) := by
    intro id B h
    unfold PM.mark at h
    split at h
    · split at h
      · rename_i es wr he
        injection h with h
        exact ⟨_, he, .inr (.inl ⟨es, wr, rfl, h.symm⟩)⟩
      · rename_i hne
        cases hB : σ id with
        | none => rw [hB] at h; cases h
        | some B0 =>
          rw [hB] at h
          injection h with h
          cases B0 with
          | cells es wr => exact absurd hB (hne es wr)
          | map en cl => exact ⟨_, rfl, .inr (.inr ⟨en, cl, rfl, h.symm⟩)⟩
    · rename_i hn
      exact ⟨B, h, .inl ⟨rfl, hn⟩⟩
  refine ⟨hm.bd, fun b o x h => Fz_val hm ids b o x h, hm.loc, ?_, ?_⟩
  · intro id B h
    obtain ⟨B0, h0, hB⟩ := hmk id B h
    rcases hm.blk id B0 h0 with ⟨wr, T0, rfl, h2⟩ | ⟨b, T, s, n, h1, hp0, h2, h3⟩
    · refine .inl ?_
      rcases hB with ⟨rfl, _⟩ | ⟨es, wr', he, rfl⟩ | ⟨en, cl, he, _⟩
      · exact ⟨wr, T0, rfl, h2⟩
      · injection he with he _
        subst he
        exact ⟨false, T0, rfl, h2⟩
      · cases he
    · refine .inr ⟨b, T, s, n, h1, hp0, ?_⟩
      rcases hB with ⟨rfl, hni⟩ | ⟨es, wr', rfl, rfl⟩ | ⟨en, cl, rfl, rfl⟩
      · refine ⟨h2.grow hg, ?_⟩
        have hno : ∀ o, Fz F ι σ w ids b o = F b o := by
          intro o
          unfold Fz
          rw [if_neg]
          rintro ⟨id', T', s', n', es, wr, hi, he1, hep, he2, _⟩
          have := hm.inj id' id b T' s' n' T s n (by rw [he2]; simp) (by rw [h0]; simp) he1 h1 hep hp0
          subst this
          exact hni hi
        cases B with
        | map en cl => trivial
        | cells es wr => cases wr with
          | true => intro o; rw [hno]; exact h3 o
          | false => intro o x; rw [hno]; exact h3 o x
      · refine ⟨?_, ?_⟩
        · exact BlkOK.grow (B := .cells es false) h2 hg
        · intro o x hx
          unfold Fz at hx
          split at hx
          · rename_i hc
            obtain ⟨id', T', s', n', es', wr, hi, he1, hep, he2, hlt⟩ := hc
            have := hm.inj id' id b T' s' n' T s n (by rw [he2]; simp) (by rw [h0]; simp) he1 h1 hep hp0
            subst this
            rw [h0] at he2
            injection he2 with he2
            injection he2 with he2 _
            subst he2
            rw [h1] at he1
            simp only [Option.some.injEq, Prod.mk.injEq] at he1
            obtain ⟨_, _, rfl, _⟩ := he1
            exact hlt
          · cases wr' with
            | true => rw [h3 o] at hx; cases hx
            | false => exact h3 o x hx
      · exact ⟨h2.grow hg, trivial⟩
  · intro id id' b T s n T' s' n' h1 h2
    have hx : ∀ j, PM.mark σ ids j ≠ none → σ j ≠ none := by
      intro j hj h0
      apply hj
      unfold PM.mark
      split <;> simp [h0]
    exact hm.inj id id' b T s n T' s' n' (hx _ h1) (hx _ h2)

theorem frz_ok {P : Program} {base : Nat} {F : Froz} {ι : Loc} {σ : Sto} {w : World} (hm : Mem P base F ι σ w) (ids : List Id) : ∀ (n : Nat) {p p' : PV} {x : Value}, VR F ι p x → frz n σ p = some p' → (∀ j ∈ frzIds n σ p, j ∈ ids) → VR (Fz F ι σ w ids) noLoc p' x
  | 0, p, p', x, _, h, _ => by simp [frz] at h
  | n + 1, p, p', x, hv, h, hids => by
    have hl : ∀ {cs cs' : List PV} {xs : Array Value}, xs.size = cs.length → (∀ (j : Nat) (q : PV), cs[j]? = some q → VR F ι q (xs.getD j undef)) → mapO (frz n σ) cs = some cs' → (∀ j ∈ cs.flatMap (frzIds n σ), j ∈ ids) →
        xs.size = cs'.length ∧ ∀ (j : Nat) (q : PV), cs'[j]? = some q → VR (Fz F ι σ w ids) noLoc q (xs.getD j undef) := by
      intro cs cs' xs hs hr ho hi
      obtain ⟨g1, g2⟩ := mapO_get ho
      refine ⟨by omega, fun j q hj => ?_⟩
      obtain ⟨a, ha, hf⟩ := g2 j q hj
      exact frz_ok hm ids n (hr j a ha) hf (fun k hk => hi k (List.mem_flatMap.2 ⟨a, List.mem_of_getElem? ha, hk⟩))
    cases hv with
    | any => simp [frz] at h
    | v _ x => simp [frz] at h; subst h; exact .v _ _
    | nilS => simp [frz] at h; subst h; exact .slNil _
    | slNil => simp [frz] at h; subst h; exact .slNil _
    | slE => simp [frz] at h; subst h; exact .slE _ _ _
    | sl _ es b off sz cap xs hn hs hF hV =>
      simp [frz] at h; subst h
      exact .sl _ es b off sz cap xs hn hs (fun i j hi hj => Fz_old hm ids _ _ _ (hF i j hi hj)) (fun i j cs p h1 h2 => (hV i j cs p h1 h2).grow ⟨fun b o x h => Fz_old hm ids b o x h, fun _ _ h => h⟩)
    | cptr _ cs off b o xs hF hV =>
      simp [frz] at h; subst h
      exact .cptr _ cs off b o xs (fun j hj => Fz_old hm ids _ _ _ (hF j hj)) (fun j p h1 => (hV j p h1).grow ⟨fun b o x h => Fz_old hm ids b o x h, fun _ _ h => h⟩)
    | ptr => simp [frz] at h
    | mp => simp [frz] at h
    | agg _ cs xs hs hr =>
      simp only [frz, Option.map_eq_some_iff] at h
      obtain ⟨cs', ho, rfl⟩ := h
      obtain ⟨a1, a2⟩ := hl hs hr ho (by simpa [frzIds] using hids)
      exact .agg _ _ _ a1 a2
    | tup _ cs xs hs hr =>
      simp only [frz, Option.map_eq_some_iff] at h
      obtain ⟨cs', ho, rfl⟩ := h
      obtain ⟨a1, a2⟩ := hl hs hr ho (by simpa [frzIds] using hids)
      exact .tup _ _ _ a1 a2
    | iface _ t q y hq =>
      simp only [frz, Option.map_eq_some_iff] at h
      obtain ⟨q', ho, rfl⟩ := h
      exact .iface _ _ _ _ (frz_ok hm ids n hq ho (by simpa [frzIds] using hids))
    | fn _ f a b xs ys hs hr hs' hr' =>
      simp only [frz] at h
      split at h
      · rename_i a' b' h1 h2
        simp at h; subst h
        obtain ⟨a1, a2⟩ := hl hs hr h1 (fun j hj => hids j (by simp only [frzIds]; exact List.mem_append.2 (.inl hj)))
        obtain ⟨b1, b2⟩ := hl hs' hr' h2 (fun j hj => hids j (by simp only [frzIds]; exact List.mem_append.2 (.inr hj)))
        exact .fn _ _ _ _ _ _ a1 a2 b1 b2
      · cases h
    | ownNil _ id e hι =>
      simp only [frz] at h
      split at h
      · split at h
        · simp [mapO] at h; subst h
          exact .slNil _
        · cases h
      · cases h
    | ownE _ id e off b o b' sz' tot hι hp =>
      simp only [frz] at h
      split at h
      · split at h
        · simp [mapO] at h; subst h
          exact .sl noLoc [] b o 0 0 (fun _ _ => undef) (by simp) (by simp) (fun i j hi => by simp at hi) (fun i j cs p h1 => by simp at h1)
        · cases h
      · cases h
    | own _ id e off len b sz tot cap hι hp0 hc hlc =>
      simp only [frz] at h
      split at h
      · rename_i es wr hs
        split at h
        · rename_i hle
          simp only [Option.map_eq_some_iff] at h
          obtain ⟨es', ho, rfl⟩ := h
          obtain ⟨c, g1, g2, g3, g4, g5, g6⟩ := hm.cellsAt hι hp0 hs
          obtain ⟨o1, o2⟩ := mapO_get ho
          have hlen : es'.length = len := by rw [o1]; simp; omega
          have hget : ∀ (i : Nat) (cs' : List PV), es'[i]? = some cs' → i < len ∧ ∃ cs, es[off + i]? = some cs ∧ mapO (frz n σ) cs = some cs' ∧ ∀ k ∈ cs.flatMap (frzIds n σ), k ∈ ids := by
            intro i cs' hi
            obtain ⟨cs, h1, h2⟩ := o2 i cs' hi
            have hil : i < len := by rw [← hlen]; exact (List.getElem?_eq_some_iff.1 hi).1
            refine ⟨hil, cs, ?_, h2, fun k hk => ?_⟩
            · rw [List.getElem?_take, if_pos hil, List.getElem?_drop] at h1
              exact h1
            · refine hids k ?_
              simp only [frzIds, hs]
              exact List.mem_cons_of_mem _ (List.mem_flatMap.2 ⟨cs, List.mem_of_getElem? h1, hk⟩)
          have hin : id ∈ ids := hids id (by simp [frzIds])
          have key := VR.sl (F := Fz F ι σ w ids) noLoc es' b (off * sz) sz cap (fun i j => c.getD ((off + i) * sz + j) undef) (by omega)
            (fun cs' hcs' => by
              obtain ⟨i, hi⟩ := List.getElem?_of_mem hcs'
              obtain ⟨_, cs, h1, h2, _⟩ := hget i cs' hi
              rw [(mapO_get h2).1]
              exact g4 cs (List.mem_of_getElem? h1))
            (fun i j hi hj => by
              have hlt : (off + i) * sz + j < c.size := by
                rw [g2]
                have : (off + i + 1) * sz ≤ tot * sz := Nat.mul_le_mul_right _ (by omega)
                rw [Nat.succ_mul] at this; omega
              have hF : Fz F ι σ w ids b (off * sz + i * sz + j) = w.cell? ⟨b, off * sz + i * sz + j, none⟩ := by
                unfold Fz
                rw [if_pos]
                refine ⟨id, e, sz, tot, es, wr, hin, hι, hp0, hs, ?_⟩
                have : (off + i + 1) * sz ≤ es.length * sz := Nat.mul_le_mul_right _ (by omega)
                rw [Nat.succ_mul, Nat.add_mul] at this; omega
              rw [hF, cell_of_blk g1]
              have e1 : off * sz + i * sz + j = (off + i) * sz + j := by rw [Nat.add_mul]
              rw [e1]
              simp [Array.getD, hlt])
            (fun i j cs' p' h1 h2 => by
              obtain ⟨hil, cs, k1, k2, k3⟩ := hget i cs' h1
              obtain ⟨q, hq, hfq⟩ := (mapO_get k2).2 j p' h2
              obtain ⟨y, hy, hvy⟩ := g5 _ _ _ _ k1 hq
              have hlt := (Array.getElem?_eq_some_iff.1 hy).1
              have hgd : c.getD ((off + i) * sz + j) undef = y := by
                rw [Array.getD_eq_getD_getElem?, hy]; rfl
              rw [hgd]
              exact frz_ok hm ids n hvy hfq (fun k hk => k3 k (List.mem_flatMap.2 ⟨q, List.mem_of_getElem? hq, hk⟩)))
          rw [hlen] at key
          exact key
        · cases h
      · cases h

end Go.PM
end

