/- As XLinH, with a mark (3) for operations that yield one value in every world whatever: these may be taken ahead of a hard one that does not wait for them. No program. -/
import Derived.Test.YtlnlcmdbhkpnhaaLinH
namespace Go.Proofs.Ytlnlcmdbhkpnhaa
open Go.RowKit

section
variable {P : Program} {ops : Array Oper} {md : Region.Mode} {Q : Exit → Act → World → Prop}

def SteadyAll (P : Program) (ops : Array Oper) (o : Oper) (v : Value) (a : Act) : Prop :=
  (Region.wanted o (yielded ops a.tmps) = true ∧ ∀ w', o.quietAt P a (fun x => x = w') w' v) ∨
  (Region.wanted o (yielded ops a.tmps) = false ∧ v = undef)
theorem SteadyAll.at {o : Oper} {v : Value} {a : Act} (h : SteadyAll P ops o v a) (w : World) : Steady P ops o v a w := h.imp (fun x => ⟨x.1, fun w' _ => x.2 w'⟩) id
theorem SteadyAll.turn {o : Oper} {v : Value} {a a' : Act} (h : SteadyAll P ops o v a) (he : execOp a'.eval o = execOp a.eval o) (hw : Region.wanted o (yielded ops a'.tmps) = Region.wanted o (yielded ops a.tmps)) : SteadyAll P ops o v a' := by
  unfold SteadyAll Oper.quietAt at *
  rw [he, hw]
  exact h

theorem wpAnyH_firstAll {hard : List Nat} {i : Nat} {oi : Oper} {v : Value} (hi : ops[i]? = some oi) (hsel : ∀ (j : Nat) (o : Oper) cs b, ops[j]? = some o → o.op ≠ .select cs b)
    (hQ : ∀ c a w, Q (.panic c) (a.put oi.dst v) w → Q (.panic c) a w) :
    ∀ (n : Nat) (listed : Array Bool) (a : Act) (w : World),
      (∀ j oj, ops[j]? = some oj → j ≠ i → listed.getD j true = false → (∀ e ∈ oj.after, Region.binds md e = true → e.on ≠ i) → oi.apart ops oj = true) →
      i ∈ Region.ready md ops listed → SteadyAll P ops oi v a →
      wpAnyH P md ops Q hard n (listed.setIfInBounds i true) (a.put oi.dst v) w → wpAnyH P md ops Q hard (n + 1) listed a w := by
  intro n
  induction n with
  | zero =>
    intro listed a w _ hr hy H
    refine ⟨fun h => absurd hr (by rw [h]; exact List.not_mem_nil), fun j hj => ?_⟩
    by_cases hji : j = i
    · subst hji; exact (hy.at w).wpOp hi ⟨.inr (Grows.refl _), H⟩
    · have := ready_mono hj hji
      rw [H.1] at this
      exact absurd this List.not_mem_nil
  | succ n ih =>
    intro listed a w hfree hr hy H
    refine ⟨fun h => absurd hr (by rw [h]; exact List.not_mem_nil), fun j hj => ?_⟩
    by_cases hji : j = i
    · subst hji; exact (hy.at w).wpOp hi ⟨.inr (Grows.refl _), H⟩
    · have hjin := ready_mono hj hji
      obtain ⟨hun, oj, hoj, hall⟩ := mem_ready.1 hj
      have hiun := (mem_ready.1 hr).1
      have hno : ∀ e ∈ oj.after, Region.binds md e = true → e.on ≠ i := by
        intro e he hb heq
        have hx := hall e he hb
        rw [heq] at hx
        rcases Nat.lt_or_ge i listed.size with hlt | hge
        · simp [hlt] at hiun hx; rw [hiun] at hx; exact absurd hx Bool.false_ne_true
        · simp [Array.getElem?_eq_none hge] at hx
      have hs := wpOp_swap hoj (hfree j oj hoj hji hun hno) (fun cs b => hsel i oi cs b hi) (fun cs b => hsel j oj cs b hoj) hQ (H.2 j hjin)
      refine wpOp_mono (fun a' w' hh => ?_) hs
      refine ⟨hh.2.1, ?_⟩
      refine ih (listed.setIfInBounds j true) a' w' (fun k ok hk hki hku hkn => hfree k ok hk hki ?_ hkn) (ready_mono hr (Ne.symm hji)) (hy.turn hh.1.1 hh.1.2) ?_
      · by_cases hjk : j = k
        · subst hjk; exact hun
        · rwa [getD_set_ne true hjk] at hku
      · rw [Array.setIfInBounds_comm _ _ hji]
        exact hh.2.2

/-- The walk in an order of one's choice: marks 0, 1, 2 as in XLinH; 3: one value in every world. -/
def wpLinP (P : Program) (ops : Array Oper) (Q : Exit → Act → World → Prop) : List (Nat × Nat) → Act → World → Prop
  | [], a, w => Q .normal a w
  | (i, 0) :: rest, a, w => ∃ o, ops[i]? = some o ∧ ∃ v, Steady P ops o v a w ∧ wpLinP P ops Q rest (a.put o.dst v) w
  | (i, 1) :: rest, a, w => ∃ o, ops[i]? = some o ∧ if Region.wanted o (yielded ops a.tmps) = true then o.wp P a w (fun a' w' => Grows w w' ∧ wpLinP P ops Q rest a' w') Q else wpLinP P ops Q rest (a.put o.dst undef) w
  | (i, 2) :: rest, a, w => ∃ o, ops[i]? = some o ∧ if Region.wanted o (yielded ops a.tmps) = true then o.wp P a w (fun a' w' => wpLinP P ops Q rest a' w') Q else wpLinP P ops Q rest (a.put o.dst undef) w
  | (i, _ + 3) :: rest, a, w => ∃ o, ops[i]? = some o ∧ ∃ v, SteadyAll P ops o v a ∧ wpLinP P ops Q rest (a.put o.dst v) w

def linFromP (md : Region.Mode) (ops : Array Oper) (hard : List Nat) : List (Nat × Nat) → Array Bool → Bool
  | [], listed => (Region.ready md ops listed).isEmpty
  | (k, 0) :: fl, listed => (Region.ready md ops listed).contains k && Region.free md ops listed k && !hard.contains k && hard.all (fun j => listed.getD j true || (ancs md ops ops.size j).contains k) && linFromP md ops hard fl (listed.setIfInBounds k true)
  | (k, 1) :: fl, listed => (Region.ready md ops listed == [k]) && linFromP md ops hard fl (listed.setIfInBounds k true)
  | (k, 2) :: fl, listed => (Region.ready md ops listed == [k]) && hard.contains k && linFromP md ops hard fl (listed.setIfInBounds k true)
  | (k, _ + 3) :: fl, listed => (Region.ready md ops listed).contains k && Region.free md ops listed k && linFromP md ops hard fl (listed.setIfInBounds k true)

theorem wpAnyP_lin {hard : List Nat} (hs : Region.noSelect ops = true) (hQ : ∀ (d : Option Tmp) (v : Value), ∀ c a w, Q (.panic c) (a.put d v) w → Q (.panic c) a w) :
    ∀ (l : List (Nat × Nat)) (listed : Array Bool) (a : Act) (w : World), Closed md ops listed → linFromP md ops hard l listed = true → wpLinP P ops Q l a w → wpAnyH P md ops Q hard l.length listed a w
  | [], _, _, _, _, hB, h => ⟨by simpa [linFromP] using hB, h⟩
  | (k, 0) :: l, listed, a, w, hcl, hB, h => by
    obtain ⟨o, h0, v, hy, hK⟩ := h
    simp only [linFromP, Bool.and_eq_true] at hB
    obtain ⟨⟨⟨⟨hr, hf⟩, hh1⟩, hh2⟩, hB'⟩ := hB
    have hr' : k ∈ Region.ready md ops listed := by simpa using hr
    refine wpAnyH_first h0 (Region.noSelect_spec hs) (hQ o.dst v) (by simpa using hh1) l.length listed a w hcl (fun j hj => ?_) (Region.free_spec h0 hf) hr' hy
      (wpAnyP_lin hs hQ l _ _ _ (hcl.add hr') hB' hK)
    have := List.all_eq_true.1 hh2 j hj
    simpa using this
  | (k, 1) :: l, listed, a, w, hcl, hB, h => by
    obtain ⟨o, h0, h⟩ := h
    simp only [linFromP, Bool.and_eq_true, beq_iff_eq] at hB
    obtain ⟨hr, hB'⟩ := hB
    refine ⟨fun hx => by rw [hr] at hx; exact absurd hx (List.cons_ne_nil _ _), fun i hi => ?_⟩
    have hcl' := hcl.add hi
    rw [hr, List.mem_singleton] at hi
    subst hi
    have hrest : ∀ a' w', wpLinP P ops Q l a' w' → wpAnyH P md ops Q hard l.length (listed.setIfInBounds i true) a' w' := fun a' w' hh => wpAnyP_lin hs hQ l _ _ _ hcl' hB' hh
    unfold wpOp
    rw [h0]
    simp only []
    split
    · rename_i hw
      rw [if_pos hw] at h
      exact .inl (Oper.wp_mono (fun a' w' hh => ⟨.inr hh.1, hrest a' w' hh.2⟩) h)
    · rename_i hw
      rw [if_neg hw] at h
      exact ⟨.inr (Grows.refl _), hrest _ _ h⟩
  | (k, 2) :: l, listed, a, w, hcl, hB, h => by
    obtain ⟨o, h0, h⟩ := h
    simp only [linFromP, Bool.and_eq_true, beq_iff_eq] at hB
    obtain ⟨⟨hr, hhd⟩, hB'⟩ := hB
    refine ⟨fun hx => by rw [hr] at hx; exact absurd hx (List.cons_ne_nil _ _), fun i hi => ?_⟩
    have hcl' := hcl.add hi
    rw [hr, List.mem_singleton] at hi
    subst hi
    have hrest : ∀ a' w', wpLinP P ops Q l a' w' → wpAnyH P md ops Q hard l.length (listed.setIfInBounds i true) a' w' := fun a' w' hh => wpAnyP_lin hs hQ l _ _ _ hcl' hB' hh
    unfold wpOp
    rw [h0]
    simp only []
    split
    · rename_i hw
      rw [if_pos hw] at h
      exact .inl (Oper.wp_mono (fun a' w' hh => ⟨.inl (by simpa using hhd), hrest a' w' hh⟩) h)
    · rename_i hw
      rw [if_neg hw] at h
      exact ⟨.inr (Grows.refl _), hrest _ _ h⟩
  | (k, m + 3) :: l, listed, a, w, hcl, hB, h => by
    obtain ⟨o, h0, v, hy, hK⟩ := h
    simp only [linFromP, Bool.and_eq_true] at hB
    obtain ⟨⟨hr, hf⟩, hB'⟩ := hB
    have hr' : k ∈ Region.ready md ops listed := by simpa using hr
    exact wpAnyH_firstAll h0 (Region.noSelect_spec hs) (hQ o.dst v) l.length listed a w (Region.free_spec h0 hf) hr' hy (wpAnyP_lin hs hQ l _ _ _ (hcl.add hr') hB' hK)

/-- The region's theorem. -/
theorem wp_region_linP {id : Nat} {a : Act} {w : World} {l : List Oper} (fl : List (Nat × Nat)) (hard : List Nat) (hm : P.follows .mixedOrders = true) (hB : (Region.noSelect l.toArray && (l.length == fl.length) && linFromP .any l.toArray hard fl (Array.replicate l.length false)) = true)
    (hQ : ∀ (d : Option Tmp) (v : Value), ∀ c a w, Q (.panic c) (a.put d v) w → Q (.panic c) a w)
    (h : wpLinP P l.toArray Q fl a w.drew) : (Code.region id l.toArray true).wp P Q a w := by
  simp only [Bool.and_eq_true, beq_iff_eq] at hB
  obtain ⟨⟨hs, hlen⟩, hB⟩ := hB
  refine wp_region_any hm ?_
  have key := wpAny_of_H _ _ _ _ (wpAnyP_lin (md := .any) hs hQ fl (Array.replicate l.length false) a w.drew (Closed.none _) hB h)
  rw [← hlen] at key
  simpa using key

theorem wpLinP_nil {a : Act} {w : World} (h : Q .normal a w) : wpLinP P ops Q [] a w := h
theorem wpLinP_take {i : Nat} {o : Oper} {rest : List (Nat × Nat)} {a : Act} {w : World} {v : Value} (hi : ops[i]? = some o) (hw : Region.wanted o (yielded ops a.tmps) = true) (hv : ∀ w', Grows w w' → o.quietAt P a (fun x => x = w') w' v)
    (h : ∀ K : Act → Prop, (∀ a, wpLinP P ops Q rest a w → K a) → K (a.put o.dst v)) : wpLinP P ops Q ((i, 0) :: rest) a w :=
  ⟨o, hi, v, .inl ⟨hw, hv⟩, h (fun a => wpLinP P ops Q rest a w) (fun _ h => h)⟩
theorem wpLinP_skip {i : Nat} {o : Oper} {rest : List (Nat × Nat)} {a : Act} {w : World} (hi : ops[i]? = some o) (hw : Region.wanted o (yielded ops a.tmps) = false)
    (h : ∀ K : Act → Prop, (∀ a, wpLinP P ops Q rest a w → K a) → K (a.put o.dst undef)) : wpLinP P ops Q ((i, 0) :: rest) a w :=
  ⟨o, hi, undef, .inr ⟨hw, rfl⟩, h (fun a => wpLinP P ops Q rest a w) (fun _ h => h)⟩
theorem wpLinP_pure {i : Nat} {o : Oper} {rest : List (Nat × Nat)} {a : Act} {w : World} {v : Value} (hi : ops[i]? = some o) (hw : Region.wanted o (yielded ops a.tmps) = true) (hv : ∀ w', o.quietAt P a (fun x => x = w') w' v)
    (h : ∀ K : Act → Prop, (∀ a, wpLinP P ops Q rest a w → K a) → K (a.put o.dst v)) : wpLinP P ops Q ((i, 3) :: rest) a w :=
  ⟨o, hi, v, .inl ⟨hw, hv⟩, h (fun a => wpLinP P ops Q rest a w) (fun _ h => h)⟩
theorem wpLinP_do {i : Nat} {o : Oper} {rest : List (Nat × Nat)} {a : Act} {w : World} (hi : ops[i]? = some o)
    (h : ∀ K : Act → World → Prop, (∀ a w', Grows w w' → wpLinP P ops Q rest a w' → K a w') → if Region.wanted o (yielded ops a.tmps) = true then o.wp P a w K Q else K (a.put o.dst undef) w) :
    wpLinP P ops Q ((i, 1) :: rest) a w := by
  have := h (fun a' w' => Grows w w' ∧ wpLinP P ops Q rest a' w') (fun _ _ h1 h2 => ⟨h1, h2⟩)
  refine ⟨o, hi, ?_⟩
  split
  · rename_i hw; rwa [if_pos hw] at this
  · rename_i hw; rw [if_neg hw] at this; exact this.2
theorem wpLinP_hard {i : Nat} {o : Oper} {rest : List (Nat × Nat)} {a : Act} {w : World} (hi : ops[i]? = some o)
    (h : ∀ K : Act → World → Prop, (∀ a w', wpLinP P ops Q rest a w' → K a w') → if Region.wanted o (yielded ops a.tmps) = true then o.wp P a w K Q else K (a.put o.dst undef) w) :
    wpLinP P ops Q ((i, 2) :: rest) a w := by
  have := h (fun a' w' => wpLinP P ops Q rest a' w') (fun _ _ h2 => h2)
  refine ⟨o, hi, ?_⟩
  split
  · rename_i hw; rwa [if_pos hw] at this
  · rename_i hw; rw [if_neg hw] at this; exact this
end
end Go.Proofs.Ytlnlcmdbhkpnhaa
