/- A logic of the model's text over values without addresses, and what the functions that the law reaches come to. Conditions: none. -/
import Derived.Test.YtnlkioiaodloeaaPart2
section
set_option linter.unusedSimpArgs false
set_option linter.unusedVariables false
set_option linter.constructorNameAsVariable false
/- Regions in the text's order, where a comparison with nil may come out either way. -/
namespace Go.PM
open Go Go.RowKit

/-- A slice of length 0 compared with nil: nothing is told. -/
def twoWays (P : Program) (e : Operand → PV) (op : Op) : Bool := match op with
  | .binOp .eql T x (.const (.slice none 0 0)) _ => (match P.underlying T with | some (.slice _) => true | _ => false) && (match e x with | .own _ _ _ _ => true | .sl _ => true | .nilS => true | _ => false)
  | _ => false

theorem twoWays_ok {P : Program} {F : Froz} {ι : Loc} {t : Nat → PV} {a : Act} {w : World} (ht : ∀ i, VR F ι (t i) (a.tmps.getD i undef)) {o : Oper} (h : twoWays P (ev t) o.op = true) :
    ∃ b, (execOp a.eval o).run P w = .ok (.value (.bool b)) w := by
  obtain ⟨dst, op, ty, pos, after, g⟩ := o
  unfold twoWays at h
  simp only at h
  split at h
  · rename_i T x T'
    simp only [Bool.and_eq_true] at h
    obtain ⟨h1, h2⟩ := h
    have hu : ∃ e, P.underlying T = some (.slice e) := by
      split at h1
      · rename_i e he; exact ⟨e, he⟩
      · cases h1
    obtain ⟨e, hu⟩ := hu
    have hs : ∃ A n c, a.eval x = .slice A n c := by
      have hx := VR.ev ht x
      generalize a.eval x = z at hx
      split at h2 <;> (try cases h2) <;> rename_i he <;> rw [he] at hx <;> cases hx <;> exact ⟨_, _, _, rfl⟩
    obtain ⟨A, n, c, hs⟩ := hs
    obtain ⟨dd, hdd⟩ := equal_step T (.slice A n c) (.slice none 0 0)
    refine ⟨A.isNone, ?_⟩
    have hc : a.eval (.const (.slice none 0 0)) = .slice none 0 0 := rfl
    cases A <;> simp [execOp, hs, hc, eqGuard, binOp, hdd, Op.equalIn, run_underlying hu]
  · cases h

/-- An operation of the text's order: as elsewhere, or a comparison that may come out either way. -/
def PStepN (P : Program) (M : Call → CK) (ops : Array Oper) (id : Id) (o : Oper) (s : PSt) (K : PSt → Prop) : Prop :=
  PStepG P M ops id o s K ∨ (o.guard = none ∧ twoWays P (ev s.t) o.op = true ∧ ∀ b, K { s with t := putT s.t o.dst (.v (.bool b)) })

def POpsN (P : Program) (M : Call → CK) (ctx : Id) (ops : Array Oper) : List Nat → PSt → (PSt → Prop) → Prop
  | [], s, K => K s
  | i :: r, s, K => match ops[i]? with
    | some o => PStepN P M ops (i :: s.c :: ctx) o s (fun s' => POpsN P M ctx ops r s' K)
    | none => False

theorem stepN_ok {P : Program} {M : Call → CK} {base N : Nat} {ops : Array Oper} {i : Nat} {id : Id} {F : Froz} {ι : Loc} {o : Oper} {s : PSt} {K : PSt → Prop} {a : Act} {w : World} {Q : Exit → Act → World → Prop} (hi : ops[i]? = some o) (h : PStepN P M ops id o s K) (sim : Sim P base N F ι s a w)
    (hfresh : ∀ j, id <:+ j → ι j = none ∧ s.σ j = none) (hd : ∀ k, o.dst = some k → k < N) : wpOp P ops Q i (After P base N id F ι s w K) a w := by
  rcases h with h | ⟨hg, h2, hK⟩
  · exact stepG_ok hi h sim hfresh hd
  · obtain ⟨b, hb⟩ := twoWays_ok (w := w) sim.tmps h2
    unfold wpOp
    simp only [hi]
    rw [if_pos (by unfold Region.wanted; rw [hg])]
    left
    unfold Oper.wp
    rw [hb]
    exact ⟨_, F, ι, hK b, rfl, sim.put sim.mem (Grow.refl _ _) hd (.v _ _), GrowB.refl _ _ _, Below.refl _ _, fun j _ => ⟨rfl, fun h => h⟩⟩

theorem opsN_ok {P : Program} {M : Call → CK} {base N : Nat} {ctx : Id} {ops : Array Oper} {Q : Exit → Act → World → Prop} {K : PSt → Prop} (hd : ∀ (i : Nat) o k, ops[i]? = some o → o.dst = some k → k < N) : ∀ (l : List Nat) {F : Froz} {ι : Loc} {s : PSt} {a : Act} {w : World}, l.Nodup → POpsN P M ctx ops l s K → Sim P base N F ι s a w →
    (∀ i ∈ l, ∀ j, (i :: s.c :: ctx) <:+ j → ι j = none ∧ s.σ j = none) → (∀ a' w', AfterL P base N ctx l F ι s w K a' w' → Q .normal a' w') → wpOps P ops Q l a w
  | [], F, ι, s, a, w, _, h, sim, _, hQ => hQ a w ⟨s, F, ι, h, rfl, sim, GrowB.refl _ _ _, Below.refl _ _, fun j _ => ⟨rfl, fun h => h⟩⟩
  | i :: l, F, ι, s, a, w, hnd, h, sim, hf, hQ => by
    rw [wpOps_cons]
    simp only [POpsN] at h
    split at h
    · rename_i o ho
      refine wpOp_mono ?_ (stepN_ok ho h sim (hf i (by simp)) (fun k hk => hd i o k ho hk))
      rintro a1 w1 ⟨s1, F1, ι1, h1, hc, sim1, hg, hb, hj⟩
      refine opsN_ok hd l (List.nodup_cons.1 hnd).2 h1 sim1 (fun k hk => fresh_next (i := i) (fun e => (List.nodup_cons.1 hnd).1 (by rw [← e]; exact hk)) hc hj (hf k (by simp [hk]))) fun a' w' ha => hQ a' w' (ha.of_after (fun k hk => by simp [hk]) (by simp) hc hg hb hj)
    · exact h.elim

/-- A region of two operations, the second a comparison with nil that may come out either way. -/
theorem PW.two {P : Program} {N : Nat} {ctx : Id} {s : PSt} {K : PExit → PSt → Prop} (M : Call → CK) {rid : Nat} {ops : Array Oper} (hok : regOK M N ops false = true)
    (h : POpsN P M ctx ops (List.range ops.size) s (fun s' => K .normal { s' with c := s.c + 1 })) : PW P N ctx (.region rid ops false) s K := by
  intro base F ι a w sim hf
  unfold regOK at hok
  simp only [Bool.and_eq_true, List.all_eq_true, Bool.or_eq_true, Bool.not_eq_true'] at hok
  obtain ⟨⟨hok1, _⟩, _⟩ := hok
  have hd : ∀ (i : Nat) o k, ops[i]? = some o → o.dst = some k → k < N := by
    intro i o k ho hk
    have := hok1 o (by simpa using Array.mem_of_getElem? ho)
    rw [hk] at this
    simpa using this
  refine wp_region (opsN_ok (base := base) (ctx := ctx) (K := fun s' => K .normal { s' with c := s.c + 1 }) (F := F) (ι := ι) (s := s) (M := M) hd _ List.nodup_range h sim (fun i _ j hs => hf s.c i j (Nat.le_refl _) hs) ?_)
  rintro a' w' ⟨s', F', ι', hK, hc, hsim, hg, hb, hj⟩
  refine ⟨_, F', ι', hK, Nat.le_succ _, ⟨hsim.mem, hsim.tmps, hsim.size, hsim.defers⟩, hg, hb, ?_, ?_⟩
  · intro c' i j hc' hs
    obtain ⟨h1, h2⟩ := hf c' i j (by simp at hc'; omega) hs
    obtain ⟨h3, h4⟩ := hj j (fun k hk hs' => by
      have := suffix_eq hs hs' (by simp)
      simp at this hc'
      omega)
    exact ⟨h3.trans h1, h4 h2⟩
  · intro j hn
    exact hj j fun k hk hs => hn (suffix_tail2 hs)

section
variable {P : Program} {M : Call → CK} {ops : Array Oper} {id : Id} {d : Option Tmp} {op : Op} {ty : TypeId} {pos : String} {after : Array Edge} {t : Nat → PV} {σ : Sto} {c : Nat} {K : PSt → Prop}
theorem PStepN.fs (h : FS P M id d op ⟨t, σ, c⟩ K) : PStepN P M ops id ⟨d, op, ty, pos, after, none⟩ ⟨t, σ, c⟩ K := .inl (FS_ok h)
theorem PStepN.two (h2 : twoWays P (ev t) op = true) (hK : ∀ b, K ⟨putT t d (.v (.bool b)), σ, c⟩) : PStepN P M ops id ⟨d, op, ty, pos, after, none⟩ ⟨t, σ, c⟩ K := .inr ⟨rfl, h2, hK⟩
end

end Go.PM
end

