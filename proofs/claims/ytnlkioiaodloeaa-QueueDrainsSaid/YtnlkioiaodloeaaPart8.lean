/- A logic of the model's text over values without addresses, and what the functions that the law reaches come to. Conditions: none. -/
import Derived.Test.YtnlkioiaodloeaaPart2
import Derived.WalkKit
import Derived.ProofKit
import Derived.OpenShut
import Derived.WideKeyArgs
section
set_option linter.unusedSimpArgs false
set_option linter.unusedVariables false
set_option linter.constructorNameAsVariable false
/- From a row's reading of the arguments to pure values; and back to the row's post. -/
namespace Go.PM
open Go Go.RowKit Go.ChangeShapes Go.WideShapes Go.ChangeAt Go.WideElems

/-- All that lies in memory is known. -/
def allF (w : World) : Froz := fun b o => w.cell? ⟨b, o, none⟩

def tileF (P : Program) : List Field → Nat → Option Nat
  | [], off => some off
  | f :: fs, off => if f.offset = off then tileF P fs (off + P.cellsOf f.type) else none

/-- The fields of every struct lie one behind another. -/
def tilesB (P : Program) : Bool := (List.range P.types.size).all fun t => match P.underlying t with
  | some (.struct fs) => tileF P fs.toList 0 == some (P.cellsOf t)
  | _ => true

def TyFs (P : Program) (R : TypeId → List PV → Prop) : List Field → List PV → Prop
  | [], cs => cs = []
  | f :: fs, cs => ∃ a b, cs = a ++ b ∧ a.length = P.cellsOf f.type ∧ R f.type a ∧ TyFs P R fs b

/-- The pure values of the cells of a value of that type. -/
def TyP (P : Program) : Nat → TypeId → List PV → Prop
  | 0, _, _ => False
  | n + 1, t, cs => match P.underlying t with
    | some .bool => ∃ b, cs = [.v (.bool b)]
    | some (.int k) => ∃ i, (Lit.int k i).wf = true ∧ cs = [.v (.int k i)]
    | some .string => ∃ s : ByteArray, s.size ≤ maxLen ∧ cs = [.v (.string s)]
    | some (.slice e) => P.cellsOf e ≠ 0 → ∃ es : List (List PV), es.length ≤ maxLen ∧ cs = [.sl es] ∧ ∀ c ∈ es, c.length = P.cellsOf e ∧ TyP P n e c
    | some (.struct fs) => t < P.types.size → TyFs P (TyP P n) fs.toList cs
    | _ => True

theorem choose_list {α : Type} {R : Nat → α → Prop} : ∀ (n : Nat), (∀ i, i < n → ∃ y, R i y) → ∃ l : List α, l.length = n ∧ ∀ i y, l[i]? = some y → R i y
  | 0, _ => ⟨[], rfl, fun i y h => by simp at h⟩
  | n + 1, h => by
    obtain ⟨l, h1, h2⟩ := choose_list n fun i hi => h i (by omega)
    obtain ⟨y, hy⟩ := h n (by omega)
    refine ⟨l ++ [y], by simp [h1], fun i z hz => ?_⟩
    by_cases hi : i < l.length
    · rw [List.getElem?_append_left hi] at hz; exact h2 i z hz
    · rw [List.getElem?_append_right (by omega)] at hz
      have : i - l.length = 0 := by
        cases hq : i - l.length with
        | zero => rfl
        | succ k => rw [hq] at hz; simp at hz
      rw [this] at hz
      simp at hz
      subst hz
      have : i = n := by omega
      rw [this]; exact hy

section
variable {H : Type} {enc : TypeId × Value → H} {P : Program} {w : World} {base : Nat} {spare : Nat → Bool} {held : Bool}

theorem fields_tile {n : Nat} {cs : List Value} (ih : ∀ (t : TypeId) (cs : List Value) (x : DataW H × List MemPlace), DataW.trod enc P w base spare held n t cs = some x → ∃ ps, TyP P n t ps ∧ ps.length = cs.length ∧ ∀ j p, ps[j]? = some p → VR (allF w) noLoc p (cs.getD j undef)) :
    ∀ (fs : List Field) (off tot : Nat), tileF P fs off = some tot → off ≤ tot → cs.length = tot → (∀ f ∈ fs, ∃ x, DataW.trod enc P w base spare held n f.type ((cs.drop f.offset).take (P.cellsOf f.type)) = some x) →
      ∃ ps, TyFs P (TyP P n) fs ps ∧ ps.length = tot - off ∧ ∀ j p, ps[j]? = some p → VR (allF w) noLoc p (cs.getD (off + j) undef)
  | [], off, tot, h, _, _, _ => by
    simp [tileF] at h
    subst h
    exact ⟨[], rfl, by simp, fun j p h => by simp at h⟩
  | f :: fs, off, tot, h, hle, hcs, hf => by
    unfold tileF at h
    split at h
    · rename_i ho
      have hmono : ∀ (fs : List Field) (o t : Nat), tileF P fs o = some t → o ≤ t := by
        intro fs
        induction fs with
        | nil => intro o t h; simp [tileF] at h; omega
        | cons g gs ih => intro o t h; unfold tileF at h; split at h; · have := ih _ _ h; omega
                          · cases h
      have hle2 := hmono _ _ _ h
      obtain ⟨ps2, h1, h2, h3⟩ := fields_tile ih fs _ tot h hle2 hcs (fun g hg => hf g (by simp [hg]))
      obtain ⟨x, hx⟩ := hf f (by simp)
      obtain ⟨ps1, g1, g2, g3⟩ := ih _ _ _ hx
      have hl1 : ps1.length = P.cellsOf f.type := by rw [g2]; simp; omega
      refine ⟨ps1 ++ ps2, ⟨ps1, ps2, rfl, hl1, g1, h1⟩, by simp [hl1, h2]; omega, fun j p hj => ?_⟩
      by_cases hjl : j < ps1.length
      · rw [List.getElem?_append_left hjl] at hj
        have := g3 j p hj
        rw [List.getD_eq_getElem?_getD, List.getElem?_take, if_pos (by omega), List.getElem?_drop, ho, ← List.getD_eq_getElem?_getD] at this
        exact this
      · rw [List.getElem?_append_right (by omega)] at hj
        have := h3 _ p hj
        have e : off + P.cellsOf f.type + (j - ps1.length) = off + j := by omega
        rw [e] at this
        exact this
    · cases h

theorem trod_typ (hT : tilesB P = true) : ∀ (n : Nat) (t : TypeId) (cs : List Value) (x : DataW H × List MemPlace), DataW.trod enc P w base spare held n t cs = some x →
    ∃ ps, TyP P n t ps ∧ ps.length = cs.length ∧ ∀ j p, ps[j]? = some p → VR (allF w) noLoc p (cs.getD j undef)
  | 0, t, cs, x, h => by simp [DataW.trod] at h
  | n + 1, t, cs, x, h => by
    have hany : (∀ ps : List PV, TyP P (n + 1) t ps) → ∃ ps, TyP P (n + 1) t ps ∧ ps.length = cs.length ∧ ∀ j p, ps[j]? = some p → VR (allF w) noLoc p (cs.getD j undef) := fun ht =>
      ⟨cs.map fun _ => .any, ht _, by simp, fun j p hj => by
        rw [List.getElem?_map] at hj
        obtain ⟨_, _, rfl⟩ := Option.map_eq_some_iff.1 hj
        exact .any _ _⟩
    have hv1 : ∀ v : Value, ∀ (j : Nat) (p : PV), [PV.v v][j]? = some p → VR (allF w) noLoc p ([v].getD j undef) := by
      intro v j p hj
      cases j with
      | zero => simp at hj; subst hj; exact .v _ _
      | succ j => simp at hj
    cases hu : P.underlying t with
    | none => exact hany fun ps => by simp [TyP, hu]
    | some d =>
      cases d with
      | bool =>
        simp only [DataW.trod, hu] at h
        split at h <;> simp_all
        rename_i b
        exact ⟨[.v (.bool b)], by simp [TyP, hu], rfl, hv1 _⟩
      | int k =>
        simp only [DataW.trod, hu] at h
        split at h <;> simp_all
        obtain ⟨⟨rfl, hw⟩, _⟩ := h
        exact ⟨[.v (.int _ _)], by simp [TyP, hu]; exact ⟨hw, rfl⟩, rfl, fun j p hj => by simpa using hv1 _ j p hj⟩
      | string =>
        simp only [DataW.trod, hu] at h
        split at h <;> simp_all
        rename_i s
        exact ⟨[.v (.string s)], by simp [TyP, hu, h.1], rfl, hv1 _⟩
      | struct fs =>
        obtain ⟨xs, m, hm, rfl, hl, hlen, hf⟩ := DataW.trod_struct hu h
        injection hm with hm
        subst hm
        by_cases ht : t < P.types.size
        case neg => exact hany fun ps => by simp [TyP, hu, ht]
        have htile : tileF P fs.toList 0 = some (P.cellsOf t) := by
          unfold tilesB at hT
          rw [List.all_eq_true] at hT
          have := hT t (by simpa using ht)
          rw [hu] at this
          simpa using this
        obtain ⟨ps, h1, h2, h3⟩ := fields_tile (cs := cs) (fun t cs x h => trod_typ hT n t cs x h) fs.toList 0 (P.cellsOf t) htile (Nat.zero_le _) hl (fun f hfm => by
          obtain ⟨i, hi⟩ := List.getElem?_of_mem hfm
          have hi' : fs[i]? = some f := by rw [← Array.getElem?_toList]; exact hi
          have hil := (List.getElem?_eq_some_iff.1 hi).1
          have hq := hf i f hi'
          have hx : i < xs.length := by rw [hlen]; simpa using hil
          exact ⟨xs[i], by rw [hq, List.getElem?_eq_getElem hx]⟩)
        refine ⟨ps, by simp only [TyP, hu]; exact fun _ => h1, by omega, fun j p hj => by simpa using h3 j p hj⟩
      | slice e =>
        by_cases he : P.cellsOf e = 0
        · exact hany fun ps => by simp [TyP, hu, he]
        rcases DataW.trod_slice hu h with ⟨rfl, rfl⟩ | ⟨a, len, cap, elems, rest, m, hm, rfl, rfl, hb, hl, hmx, hlen, hel, hsp, hns⟩
        · refine ⟨[.sl []], by simp only [TyP, hu]; exact fun _ => ⟨[], Nat.zero_le _, rfl, fun c hc => by cases hc⟩, rfl, fun j p hj => ?_⟩
          cases j with
          | zero => simp at hj; subst hj; exact .slNil _
          | succ j => simp at hj
        · injection hm with hm
          subst hm
          have hone : ∀ v p, VR (allF w) noLoc p v → ∀ (j : Nat) (q : PV), [p][j]? = some q → VR (allF w) noLoc q ([v].getD j undef) := by
            intro v p hv j q hj
            cases j with
            | zero => simp at hj; subst hj; exact hv
            | succ j => simp at hj
          by_cases hl0 : len = 0
          · subst hl0
            exact ⟨[.sl []], by simp only [TyP, hu]; exact fun _ => ⟨[], Nat.zero_le _, rfl, fun c hc => by cases hc⟩, rfl, hone _ _ (.slE _ _ _)⟩
          · have each : ∀ i, i < len → ∃ ps : List PV, ∃ vs : List Value, w.cells? base (a.add (i * P.cellsOf e)) (P.cellsOf e) = some vs ∧ TyP P n e ps ∧ ps.length = vs.length ∧ ∀ j p, ps[j]? = some p → VR (allF w) noLoc p (vs.getD j undef) := by
              intro i hi
              have h1 := hel i hi
              have h2 : i < elems.length := by omega
              rw [List.getElem?_eq_getElem h2] at h1
              obtain ⟨vs, g1, g2⟩ := Option.bind_eq_some_iff.1 h1
              obtain ⟨ps, k1, k2, k3⟩ := trod_typ hT n e vs _ g2
              exact ⟨ps, vs, g1, k1, k2, k3⟩
            have hspot : a = ⟨a.block, a.off, none⟩ := by
              obtain ⟨ps, vs, g1, _⟩ := each 0 (by omega)
              obtain ⟨_, _, g3⟩ := World.cells?_some g1
              have h0 := g3 0 (by omega)
              simp only [Nat.zero_mul, Addr.add, if_true] at h0
              obtain ⟨_, g2, _⟩ := World.cells?_some g1
              have : vs[0]? ≠ none := by
                rw [List.getElem?_eq_getElem (by omega)]; simp
              cases a with
              | mk b o s =>
                cases s with
                | none => rfl
                | some q =>
                  exfalso
                  rw [← h0] at this
                  unfold World.cell? at this
                  split at this <;> simp at this
            obtain ⟨es, e1, e2⟩ := choose_list len each
            have hall : ∀ i cs, es[i]? = some cs → ∀ j p, cs[j]? = some p → w.cell? ⟨a.block, a.off + i * P.cellsOf e + j, none⟩ = some ((w.cell? ⟨a.block, a.off + i * P.cellsOf e + j, none⟩).getD undef) ∧ VR (allF w) noLoc p ((w.cell? ⟨a.block, a.off + i * P.cellsOf e + j, none⟩).getD undef) := by
              intro i cs hi j p hj
              obtain ⟨vs, g1, _, g2, g3⟩ := e2 i cs hi
              obtain ⟨_, k2, k3⟩ := World.cells?_some g1
              have hjl : j < vs.length := by rw [← g2]; exact (List.getElem?_eq_some_iff.1 hj).1
              have hc := k3 j (by omega)
              have had : ((a.add (i * P.cellsOf e)).add j) = ⟨a.block, a.off + i * P.cellsOf e + j, none⟩ := by
                rw [hspot, add_at, add_at]
              rw [had, List.getElem?_eq_getElem hjl] at hc
              rw [hc]
              refine ⟨rfl, ?_⟩
              have := g3 j p hj
              rw [List.getD_eq_getElem?_getD, List.getElem?_eq_getElem hjl] at this
              exact this
            have hlens : ∀ cs ∈ es, cs.length = P.cellsOf e ∧ TyP P n e cs := by
              intro cs hcs
              obtain ⟨i, hi⟩ := List.getElem?_of_mem hcs
              obtain ⟨vs, g1, g4, g2, g3⟩ := e2 i cs hi
              obtain ⟨_, k2, _⟩ := World.cells?_some g1
              exact ⟨by omega, g4⟩
            refine ⟨[.sl es], by simp only [TyP, hu]; exact fun _ => ⟨es, by omega, rfl, hlens⟩, rfl, hone _ _ ?_⟩
            rw [hspot, ← e1]
            exact VR.sl _ es a.block a.off (P.cellsOf e) cap (fun i j => (w.cell? ⟨a.block, a.off + i * P.cellsOf e + j, none⟩).getD undef) (by omega) (fun cs hcs => (hlens cs hcs).1)
              (fun i j hi hj => by
                have h1 := List.getElem?_eq_getElem hi
                have h2 := (hlens es[i] (List.getElem_mem hi)).1
                exact (hall i es[i] h1 j (es[i][j]'(by omega)) (List.getElem?_eq_getElem (by omega))).1)
              (fun i j cs p h1 h2 => (hall i cs h1 j p h2).2)
      | _ => exact hany fun ps => by simp [TyP, hu]

theorem arg_agg (hT : tilesB P = true) {t : TypeId} {xs : Array Value} {d : DataW H} {q : List MemPlace} (h : DataW.Trod enc P w base spare held t (.agg xs) d q) : ∃ n ps, TyP P n t ps ∧ VR (allF w) noLoc (.agg ps) (.agg xs) := by
  obtain ⟨n, hn⟩ := h
  obtain ⟨ps, h1, h2, h3⟩ := trod_typ hT _ _ _ _ hn
  refine ⟨n, ps, h1, .agg _ _ _ (by simpa [Value.cells] using h2.symm) fun j p hj => ?_⟩
  have := h3 j p hj
  simpa [Value.cells, List.getD_eq_getElem?_getD, Array.getD_eq_getD_getElem?] using this

theorem arg_cell (hT : tilesB P = true) {t : TypeId} {v : Value} {d : DataW H} {q : List MemPlace} (h : DataW.Trod enc P w base spare held t v d q) (hv : v.cells = #[v]) : ∃ n p, TyP P n t [p] ∧ VR (allF w) noLoc p v := by
  obtain ⟨n, hn⟩ := h
  obtain ⟨ps, h1, h2, h3⟩ := trod_typ hT _ _ _ _ hn
  rw [hv] at h2 h3
  match ps, h2 with
  | [p], _ => exact ⟨n, p, h1, by simpa using h3 0 p rfl⟩

theorem ok_agg {r : Reach} {b : Nat} {t : TypeId} {v : Value} {fs : Array Field} (ht : P.underlying t = some (.struct fs)) (h : Value.okWide P w r b t v) : ∃ xs, v = .agg xs := by
  unfold Value.okWide at h
  rw [ht] at h
  obtain ⟨xs, rfl, _⟩ := h
  exact ⟨xs, rfl⟩

theorem ok_slice {r : Reach} {b : Nat} {t e : TypeId} {v : Value} (ht : P.underlying t = some (.slice e)) (h : Value.okWide P w r b t v) : v.cells = #[v] := by
  unfold Value.okWide at h
  rw [ht] at h
  simp only [Cell.okWide, Cell.ok, ht] at h
  cases v <;> first | rfl | (exact h.elim)

theorem ok_int {r : Reach} {b : Nat} {t : TypeId} {k : IntKind} {v : Value} (ht : P.underlying t = some (.int k)) (h : Value.okWide P w r b t v) : v.cells = #[v] := by
  unfold Value.okWide at h
  rw [ht] at h
  simp only [Cell.okWide, Cell.ok, ht] at h
  cases v <;> first | rfl | (exact h.elim)

theorem ok_string {r : Reach} {b : Nat} {t : TypeId} {v : Value} (ht : P.underlying t = some .string) (h : Value.okWide P w r b t v) : v.cells = #[v] := by
  unfold Value.okWide at h
  rw [ht] at h
  simp only [Cell.okWide, Cell.ok, ht] at h
  cases v <;> first | rfl | (exact h.elim)

theorem trodAll_stays (hl : laidOutB P = true) {W W' : World} (hb : Below W.heap.size W W') {sp : Nat → Bool} : ∀ {ts : List TypeId} {vs : List Value} {ds : List (DataW H)} {ps : List MemPlace}, (∀ t ∈ ts, P.readableRec t = true ∧ t < P.types.size) →
    DataW.TrodAll enc P W 0 (fun _ => true) true ts vs ds ps → (∀ x ∈ ps, x.block < W.heap.size) → (∀ x ∈ ps, sp x.block = true) → DataW.TrodAll enc P W' 0 sp true ts vs ds ps
  | [], [], [], ps, _, h, _, _ => h
  | t :: ts, v :: vs, d :: ds, ps, ht, h, hlt, hsp => by
    obtain ⟨p, q, h1, h2, rfl⟩ := h
    exact ⟨p, q, Trod_stays hl (ht t (by simp)).1 (ht t (by simp)).2 h1 (fun x hx => hb.same (hlt x (by simp [hx]))) (fun x hx => hsp x (by simp [hx])),
      trodAll_stays hl hb (fun t' h' => ht t' (by simp [h'])) h2 (fun x hx => hlt x (by simp [hx])) (fun x hx => hsp x (by simp [hx])), rfl⟩
  | [], [], _ :: _, _, _, h, _, _ => h.elim
  | [], _ :: _, _, _, _, h, _, _ => h.elim
  | _ :: _, [], _, _, _, h, _, _ => h.elim
  | _ :: _, _ :: _, [], _, _, h, _, _ => h.elim

/-- A law's post: true, the arguments as they were. -/
theorem law_post {f : Func} {s : ChangeSpec} {W W' : World} {args : Array Value} {ds gs : List (DataW H)} {before : List MemPlace} (hl : laidOutB P = true)
    (hp : ∀ t ∈ f.params.toList, P.readableRec t = true ∧ t < P.types.size) (hv : s.vars = [])
    (hW : DataW.Whole enc P f.params.toList s.vars false W args.toList ds gs before) (hr : f.resultTypes.size = 1) {t : TypeId} (hrt : f.resultTypes[0]? = some t) (hb : P.underlying t = some .bool)
    (hres : (s.fn H (ds ++ gs)).results = [.lit (.bool true)]) (hargs : (s.fn H (ds ++ gs)).args = ds) (hvars : (s.fn H (ds ++ gs)).vars = []) (hbel : Below W.heap.size W W') :
    s.post enc P f false true false false W args (.bool true) W' := by
  have hW' := hW
  obtain ⟨p, q, h1, h2, rfl, h3, h4⟩ := hW'
  rw [hv] at h2
  obtain ⟨rfl, rfl⟩ : q = [] ∧ gs = [] := by
    cases gs with
    | nil => exact ⟨h2, rfl⟩
    | cons => exact h2.elim
  have hrl : f.resultTypes.toList = [t] := by
    cases hh : f.resultTypes with
    | mk l =>
      rw [hh] at hr hrt
      match l, hr with
      | [a], _ => simp at hrt; simp [hrt]
  refine ⟨ds, [], p ++ [], [], p, [], hW, ?_, ?_, ?_, hbel.frame _, fun h => by cases h⟩
  · rw [hrl, hres, hr]
    exact trodAll_cons_mk (shut_bool hb true) trodAll_mk0
  · rw [hargs]
    have hlt : ∀ x ∈ p, x.block < W.heap.size := fun x hx => hW.lt x (by simp [hx])
    exact trodAll_stays hl hbel hp h1 hlt (fun x hx => by simpa using hlt x hx)
  · rw [hvars, hv]; rfl

end
end Go.PM
end

