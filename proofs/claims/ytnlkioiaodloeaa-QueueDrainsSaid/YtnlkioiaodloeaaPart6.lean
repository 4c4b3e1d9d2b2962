/- A logic of the model's text over values without addresses, and what the functions that the law reaches come to. Conditions: none. -/
import Derived.Test.YtnlkioiaodloeaaPart2
import Derived.Shelf.SlSortCmp.NoneTotal
section
set_option linter.unusedSimpArgs false
set_option linter.unusedVariables false
set_option linter.constructorNameAsVariable false
/- slices.SortFunc over a block of the call's own: out of the shelf's contract, a contract over pure states. -/
namespace Go.PM
open Go hiding Id
open Go.RowKit Go.Sort Go.Shelf Go.Proofs

theorem below_grow {w w' : World} (h : Below w.heap.size w w') : ∃ q os, w' = grow (w.drewN q) os := by
  refine ⟨w'.drawn - w.drawn, w'.heap.extract w.heap.size w'.heap.size, ?_⟩
  have hd := h.dr
  have hs := h.size
  have hh : w'.heap = w.heap ++ w'.heap.extract w.heap.size w'.heap.size := by
    apply Array.ext_getElem?
    intro i
    by_cases hi : i < w.heap.size
    · rw [h.block i hi, Array.getElem?_append_left hi]
    · rw [Array.getElem?_append_right (by omega), Array.getElem?_extract]
      by_cases h2 : i < w'.heap.size
      · rw [if_pos (by omega)]; congr 1; omega
      · rw [if_neg (by omega), Array.getElem?_eq_none (by omega)]
  have h1 := h.os
  have h2 := h.tape
  have h3 := h.output
  cases w; cases w'
  simp only [grow, World.drewN] at *
  subst h1; subst h2; subst h3
  congr 1
  omega

theorem drewN_below (w : World) (q : Nat) (B : Nat) : Below B w (w.drewN q) := ⟨⟨rfl, rfl, rfl, Nat.le_refl _, fun _ _ => rfl⟩, by simp [World.drewN]⟩
theorem grow_below (w : World) (os : Array Obj) : Below w.heap.size w (grow w os) := ⟨⟨rfl, rfl, rfl, by simp [grow], fun k hk => by simp only [grow]; rw [Array.getElem?_append_left hk]⟩, Nat.le_refl _⟩

def vs (l : List Value) : List PV := l.map PV.v

theorem vr_agg (F : Froz) (ι : Loc) (l : List Value) : VR F ι (.agg (vs l)) (.agg l.toArray) := by
  refine .agg _ _ _ (by simp [vs]) fun j p hj => ?_
  simp only [vs, List.getElem?_map, Option.map_eq_some_iff] at hj
  obtain ⟨x, hx, rfl⟩ := hj
  have : (l.toArray).getD j undef = x := by
    rw [Array.getD_eq_getD_getElem?, List.getElem?_toArray, hx]; rfl
  rw [this]
  exact .v _ _

theorem cmpLays_of {P : Program} {g : FuncId} {α : Type} (enc : α → List Value) (k : Nat) (cf : α → α → Int) (hcmp : ∀ x y, PC P g [.agg (vs (enc x)), .agg (vs (enc y))] (.v (.int .i64 (cf x y)))) (blk off size : Nat) (w : World) [Inhabited α] :
    CmpLays P g #[] enc k cf blk off size w := by
  intro m os dk _ x y
  generalize sortWorldK enc k w blk off m dk os = W
  have hvs : VRs (fun _ _ => none) noLoc [.agg (vs (enc x)), .agg (vs (enc y))] #[.agg (enc x).toArray, .agg (enc y).toArray] := by
    refine ⟨rfl, fun j p hj => ?_⟩
    match j, hj with
    | 0, hj => injection hj with hj; subst hj; exact vr_agg _ _ _
    | 1, hj => injection hj with hj; subst hj; exact vr_agg _ _ _
    | j + 2, hj => cases hj
  have h := hcmp x y (fun _ _ => none) W _ (fun b o z h => by cases h) hvs
  rw [Array.append_empty]
  refine h.mono ?_
  rintro e w' ⟨v, F', rfl, hb, _, _, _, hv⟩
  cases hv
  exact ⟨rfl, below_grow hb⟩

theorem putRowK_blk {α : Type} [Inhabited α] (enc : α → List Value) (k : Nat) (w : World) {b : Nat} {c : Array Value} {T : TypeId} {fr : Nat × Nat} (h : w.heap[b]? = some (.cells c T fr)) (d : Array α) (n : Nat) :
    putRowK enc k (Sort.ahead w n) b 0 d = (putBlk w b (.cells (putCells _root_.id 0 (flatK enc k d) c) T fr)).drewN n := by
  have hb := lt_of_blk h
  have h1 : w.heap[b] = .cells c T fr := by rw [Array.getElem?_eq_getElem hb] at h; exact Option.some.inj h
  unfold putRowK putRow mapBlock putBlk Sort.ahead World.drewN
  simp only
  congr 1
  apply Array.ext_getElem?
  intro i
  rw [Array.getElem?_modify, Array.getElem?_setIfInBounds]
  by_cases hi : b = i
  · subst hi
    simp [hb, h1, onCells]
  · simp [hi]

theorem PCS.sort {P : Program} {f g : FuncId} {id ii : PM.Id} {σ : Sto} {e : TypeId} {k : Nat} (hk : 0 < k) {α : Type} [Inhabited α] (enc : α → List Value) (henc : ∀ x, (enc x).length = k) (cf : α → α → Int) (le : α → α → Bool)
    (hsort : ∀ (blk off cap : Nat) (d : Array α) (w : World), CmpLays P g #[] enc k cf blk off d.size w → HoldsK enc k w blk off d → blk < w.heap.size → d.size < 4611686018427387904 →
      Calls P f #[.slice (some ⟨blk, off, none⟩) d.size cap, .func (.func g) #[] #[]] w fun e w' => e = .returned (.tuple #[]) ∧ ∃ n os, w' = sortWorldK enc k w blk off n (d.toList.mergeSort le).toArray os)
    (hnone : ∀ (p : Option Addr) (cap : Nat) (fv : Value) (w : World), Calls P f #[.slice p 0 cap, fv] w fun e w' => e = .returned (.tuple #[]) ∧ w' = w)
    (hcmp : ∀ x y, PC P g [.agg (vs (enc x)), .agg (vs (enc y))] (.v (.int .i64 (cf x y)))) {l : List α} {rest : List (List PV)} (hσ : σ ii = some (.cells (l.map (fun x => vs (enc x)) ++ rest) true)) (hlen : l.length < 4611686018427387904) :
    PCS P id f [.own ii e 0 l.length, .fn (.func g) [] []] σ (fun r σ' => r = .tup [] ∧ σ' = upd σ ii (some (.cells ((l.mergeSort le).map (fun x => vs (enc x)) ++ rest) true))) := by
  refine ⟨⟨_, _, rfl, rfl⟩, fun base F ι w vals hm hfr hv => ?_⟩
  obtain ⟨hs, hvs⟩ := hv
  have h0 := hvs 0 _ rfl
  have h1 := hvs 1 _ rfl
  obtain ⟨a, c, rfl⟩ : ∃ a c, vals = #[a, c] := by
    match vals, hs with
    | ⟨[a, c]⟩, _ => exact ⟨a, c, rfl⟩
  simp only [Array.getD, List.size_toArray, List.length_cons, List.length_nil] at h0 h1
  simp at h0 h1
  have hc : c = .func (.func g) #[] #[] := by
    cases h1 with
    | fn _ _ _ _ xs ys hl _ hl' _ =>
      simp at hl hl'
      subst hl; subst hl'
      rfl
  subst hc
  have hundef : VR F ι (.tup []) (.tuple #[]) := .tup _ _ _ rfl fun j p h => by simp at h
  have hnil : ∀ (p : Option Addr) (cap : Nat), a = .slice p 0 cap → l = [] → Calls P f #[a, .func (.func g) #[] #[]] w (SRes P base id F ι σ w (fun r σ' => r = .tup [] ∧ σ' = upd σ ii (some (.cells ((l.mergeSort le).map (fun x => vs (enc x)) ++ rest) true)))) := by
    rintro p cap rfl rfl
    refine (hnone p cap _ w).mono ?_
    rintro e' w' ⟨rfl, rfl⟩
    have hsame : upd σ ii (some (.cells ((([] : List α).mergeSort le).map (fun x => vs (enc x)) ++ rest) true)) = σ := by
      funext j
      unfold upd
      split
      · rename_i hj
        subst hj
        rw [hσ]; simp
      · rfl
    refine ⟨_, F, ι, _, σ, rfl, ⟨rfl, hsame.symm⟩, hundef, hm, GrowB.refl _ _ _, Below.refl _ _, fun j _ => ⟨rfl, fun h => h⟩⟩
  generalize hL : l.length = n at h0
  cases h0 with
  | ownNil => exact hnil none 0 rfl (List.eq_nil_of_length_eq_zero hL)
  | ownE _ _ _ _ _ _ _ _ _ _ h => omega
  | own _ _ _ _ _ b sz tot cap hι hsz hcap hle =>
    by_cases hn0 : n = 0
    · subst hn0
      exact hnil _ cap rfl (List.eq_nil_of_length_eq_zero hL)
    obtain ⟨c, g1, g2, g3, g4, g5, g6⟩ := hm.cellsAt hι hsz hσ
    have hszk : sz = k := by
      obtain ⟨x, hx⟩ := List.exists_mem_of_ne_nil l (by rintro rfl; simp at hL; omega)
      have := g4 (vs (enc x)) (by simp only [List.mem_append, List.mem_map]; exact .inl ⟨x, hx, rfl⟩)
      rw [← this]
      simp [vs, henc]
    subst hszk
    have hget : ∀ (l' : List α) (i j : Nat) (cs : List PV) (p : PV), (l'.map (fun x => vs (enc x)))[i]? = some cs → cs[j]? = some p → ∃ x v, l'[i]? = some x ∧ (enc x)[j]? = some v ∧ p = .v v := by
      intro l' i j cs p h1 h2
      rw [List.getElem?_map] at h1
      obtain ⟨x, hx, rfl⟩ := Option.map_eq_some_iff.1 h1
      simp only [vs, List.getElem?_map] at h2
      obtain ⟨v, hv, rfl⟩ := Option.map_eq_some_iff.1 h2
      exact ⟨x, v, hx, hv, rfl⟩
    have hcell : ∀ t, t < l.length * sz → c[t]? = some (flatK enc sz l.toArray)[t]! := by
      intro t ht
      have hi : t / sz < l.length := (Nat.div_lt_iff_lt_mul hsz).2 ht
      have hj : t % sz < sz := Nat.mod_lt _ hsz
      obtain ⟨y, hy, hvy⟩ := g5 (t / sz) (t % sz) (vs (enc l[t / sz])) (.v ((enc l[t / sz])[t % sz]'(by rw [henc]; exact hj))) (by
        rw [List.getElem?_append_left (by simpa using hi)]
        simp [hi]) (by simp [vs, henc, hj])
      cases hvy
      have e1 : t / sz * sz + t % sz = t := by rw [Nat.mul_comm]; exact Nat.div_add_mod t sz
      rw [e1] at hy
      rw [hy, get_flatK _ _ _ _ (by simpa using ht)]
      have e2 : (l.toArray)[t / sz]! = l[t / sz] := by simp [hi]
      rw [e2]
      have : t % sz < (enc l[t / sz]).length := by rw [henc]; exact hj
      simp [this]
    have hH : HoldsK enc sz w b (0 * sz) l.toArray := by
      intro t ht
      simp only [size_flatK, List.size_toArray] at ht
      simp only [Nat.zero_mul, Nat.zero_add, _root_.id]
      refine ⟨?_, frozen_of_blk g1 _⟩
      rw [cell_of_blk g1]
      exact hcell t ht
    have hbl := (hm.loc _ _ _ _ _ hι hsz)
    have hcall := hsort b (0 * sz) cap l.toArray w (cmpLays_of enc sz cf hcmp _ _ _ _) hH hbl.2.1 (by simpa using hlen)
    rw [List.size_toArray, hL] at hcall
    refine hcall.mono ?_
    rintro e' w' ⟨rfl, q, os, rfl⟩
    simp only [Nat.zero_mul]
    have hperm := List.mergeSort_perm l le
    generalize hS : l.mergeSort le = s at hperm ⊢
    have hsl := hperm.length_eq
    unfold sortWorldK
    rw [putRowK_blk enc sz w g1]
    have hcs : (putCells _root_.id 0 (flatK enc sz s.toArray) c).size = c.size := by simp [putCells]
    have hpc : ∀ t, t < c.size → (putCells _root_.id 0 (flatK enc sz s.toArray) c)[t]? = if t < s.length * sz then some (flatK enc sz s.toArray)[t]! else c[t]? := by
      intro t ht
      unfold putCells
      rw [Array.getElem?_mapIdx, Array.getElem?_eq_getElem ht]
      simp
      split <;> rfl
    have hput := hm.put hσ hι hsz (.cells (putCells _root_.id 0 (flatK enc sz s.toArray) c) e (0, 0)) (.cells (s.map (fun x => vs (enc x)) ++ rest) true) (fun o x hx => by
        rw [g6 o] at hx; cases hx) (by
        refine ⟨_, putBlk_same w _ (lt_of_blk g1), by rw [hcs]; exact g2, by simp [hsl] at g3 ⊢; exact g3, ?_, ?_⟩
        · intro cs hcs'
          rcases List.mem_append.1 hcs' with h | h
          · obtain ⟨x, _, rfl⟩ := List.mem_map.1 h; simp [vs, henc]
          · exact g4 cs (List.mem_append.2 (.inr h))
        · intro i j cs p h1 h2
          by_cases hi : i < s.length
          · rw [List.getElem?_append_left (by simpa using hi)] at h1
            obtain ⟨x, v, hx, hv, rfl⟩ := hget s i j cs p h1 h2
            have hj : j < sz := by rw [← henc x]; exact (List.getElem?_eq_some_iff.1 hv).1
            have hlt : i * sz + j < s.length * sz := by
              have : (i + 1) * sz ≤ s.length * sz := Nat.mul_le_mul_right _ hi
              rw [Nat.succ_mul] at this; omega
            have hlt2 : i * sz + j < c.size := by
              rw [g2]
              have : s.length ≤ tot := by rw [hsl]; omega
              have := Nat.mul_le_mul_right sz this
              omega
            refine ⟨v, ?_, .v _ _⟩
            rw [hpc _ hlt2, if_pos hlt, get_flatK _ _ _ _ (by simpa using hlt)]
            have e1 : (i * sz + j) / sz = i := by rw [Nat.mul_comm, Nat.mul_add_div hsz, Nat.div_eq_of_lt hj]; rfl
            have e2 : (i * sz + j) % sz = j := by rw [Nat.mul_comm, Nat.mul_add_mod]; exact Nat.mod_eq_of_lt hj
            rw [e1, e2]
            obtain ⟨hi', hxe⟩ := List.getElem?_eq_some_iff.1 hx
            obtain ⟨hj', hve⟩ := List.getElem?_eq_some_iff.1 hv
            have e3 : (s.toArray)[i]! = x := by simp [hi, hxe]
            rw [e3]
            simp [hj', hve]
          · rw [List.getElem?_append_right (by simp; omega)] at h1
            obtain ⟨y, hy, hvy⟩ := g5 i j cs p (by rw [List.getElem?_append_right (by simp; omega)]; rw [← h1]; simp [hsl]) h2
            refine ⟨y, ?_, hvy⟩
            have hlt2 := (Array.getElem?_eq_some_iff.1 hy).1
            rw [hpc _ hlt2, if_neg ?_]
            · exact hy
            · have : s.length * sz ≤ i * sz := Nat.mul_le_mul_right _ (by omega)
              omega) g6
    obtain ⟨m1, b1⟩ := hput
    have b2 := (drewN_below (putBlk w b (.cells (putCells _root_.id 0 (flatK enc sz s.toArray) c) e (0, 0))) q (putBlk w b (.cells (putCells _root_.id 0 (flatK enc sz s.toArray) c) e (0, 0))).heap.size).trans (grow_below (World.drewN (putBlk w b (.cells (putCells _root_.id 0 (flatK enc sz s.toArray) c) e (0, 0))) q) os)
    have m2 := m1.ext b2 (fun _ _ _ h => h) (fun _ _ _ => rfl) (fun b' o x hx => by
      have := m1.val b' o x hx
      rw [cell_world (b2.block b' (lt_of_cell this))]
      exact this)
    refine ⟨_, F, ι, _, _, rfl, ⟨rfl, rfl⟩, hundef, m2, GrowB.refl _ _ _, b1.trans (b2.mono (by rw [putBlk_size]; exact hm.bd)), fun j _ => ⟨rfl, fun h => ?_⟩⟩
    rw [upd_ne _ _ (by rintro rfl; rw [hσ] at h; cases h)]
    exact h

end Go.PM
end

