/- As XLin, with operations that may write anywhere ('hard' ones): whatever was taken before one as steady must be among its ancestors. No program. -/
import Derived.Test.YtlnlcmdbhkpnhaaLin
namespace Go.Proofs.Ytlnlcmdbhkpnhaa
open Go.RowKit

section
variable {P : Program} {ops : Array Oper} {md : Region.Mode} {Q : Exit → Act → World → Prop}

/-- What must come before operation j, by so many steps. -/
def ancs (md : Region.Mode) (ops : Array Oper) : Nat → Nat → List Nat
  | 0, _ => []
  | n + 1, j => match ops[j]? with
    | none => []
    | some o => (o.after.toList.filter (Region.binds md ·)).flatMap fun e => e.on :: ancs md ops n e.on
/-- Whatever is listed, all that must come before it is. -/
def Closed (md : Region.Mode) (ops : Array Oper) (listed : Array Bool) : Prop := ∀ j o, ops[j]? = some o → listed.getD j false = true → ∀ e ∈ o.after, Region.binds md e = true → listed.getD e.on false = true
theorem Closed.anc {listed : Array Bool} (h : Closed md ops listed) : ∀ (n j i : Nat) (o : Oper), ops[j]? = some o → (∀ e ∈ o.after, Region.binds md e = true → listed.getD e.on false = true) → i ∈ ancs md ops n j → listed.getD i false = true := by
  intro n
  induction n with
  | zero => intro j i o _ _ hi; exact absurd hi List.not_mem_nil
  | succ n ih =>
    intro j i o ho hall hi
    simp only [ancs, ho] at hi
    obtain ⟨e, he, hm⟩ := List.mem_flatMap.1 hi
    obtain ⟨he1, he2⟩ := List.mem_filter.1 he
    have hlt := hall e (by simpa using he1) he2
    rcases List.mem_cons.1 hm with rfl | hm
    · exact hlt
    · cases hoe : ops[e.on]? with
      | none => cases n <;> simp [ancs, hoe] at hm
      | some oe => exact ih e.on i oe hoe (h e.on oe hoe hlt) hm
theorem Closed.add {listed : Array Bool} (h : Closed md ops listed) {i : Nat} (hi : i ∈ Region.ready md ops listed) : Closed md ops (listed.setIfInBounds i true) := by
  obtain ⟨hun, o, ho, hall⟩ := mem_ready.1 hi
  intro j oj hj hl e he hb
  by_cases hji : i = j
  · subst hji
    rw [ho] at hj
    cases hj
    exact getD_set_true (hall e he hb)
  · rw [getD_set_ne false hji] at hl
    exact getD_set_true (h j oj hj hl e he hb)
theorem Closed.none (n : Nat) : Closed md ops (Array.replicate n false) := by
  intro j o _ hl
  by_cases hj : j < n <;> simp [hj] at hl

/-- Any order from here on; each step lets the world grow, but a hard one. -/
def wpAnyH (P : Program) (md : Region.Mode) (ops : Array Oper) (Q : Exit → Act → World → Prop) (hard : List Nat) : Nat → Array Bool → Act → World → Prop
  | 0, listed, a, w => Region.ready md ops listed = [] ∧ Q .normal a w
  | n + 1, listed, a, w => (Region.ready md ops listed = [] → Q .normal a w) ∧
      ∀ i ∈ Region.ready md ops listed, wpOp P ops Q i (fun a' w' => (i ∈ hard ∨ Grows w w') ∧ wpAnyH P md ops Q hard n (listed.setIfInBounds i true) a' w') a w
theorem wpAny_of_H {hard : List Nat} : ∀ (n : Nat) (listed : Array Bool) (a : Act) (w : World), wpAnyH P md ops Q hard n listed a w → wpAny P md ops Q n listed a w
  | 0, _, _, _, h => h
  | n + 1, _, _, _, h => ⟨h.1, fun i hi => wpOp_mono (fun a' w' hh => wpAny_of_H n _ a' w' hh.2) (h.2 i hi)⟩

theorem wpAnyH_first {hard : List Nat} {i : Nat} {oi : Oper} {v : Value} (hi : ops[i]? = some oi) (hsel : ∀ (j : Nat) (o : Oper) cs b, ops[j]? = some o → o.op ≠ .select cs b)
    (hQ : ∀ c a w, Q (.panic c) (a.put oi.dst v) w → Q (.panic c) a w) (hhi : i ∉ hard) :
    ∀ (n : Nat) (listed : Array Bool) (a : Act) (w : World), Closed md ops listed → (∀ j ∈ hard, listed.getD j true = true ∨ i ∈ ancs md ops ops.size j) →
      (∀ j oj, ops[j]? = some oj → j ≠ i → listed.getD j true = false → (∀ e ∈ oj.after, Region.binds md e = true → e.on ≠ i) → oi.apart ops oj = true) →
      i ∈ Region.ready md ops listed → Steady P ops oi v a w →
      wpAnyH P md ops Q hard n (listed.setIfInBounds i true) (a.put oi.dst v) w → wpAnyH P md ops Q hard (n + 1) listed a w := by
  intro n
  induction n with
  | zero =>
    intro listed a w _ _ _ hr hy H
    refine ⟨fun h => absurd hr (by rw [h]; exact List.not_mem_nil), fun j hj => ?_⟩
    by_cases hji : j = i
    · subst hji; exact hy.wpOp hi ⟨.inr (Grows.refl _), H⟩
    · have := ready_mono hj hji
      rw [H.1] at this
      exact absurd this List.not_mem_nil
  | succ n ih =>
    intro listed a w hcl hhard hfree hr hy H
    refine ⟨fun h => absurd hr (by rw [h]; exact List.not_mem_nil), fun j hj => ?_⟩
    by_cases hji : j = i
    · subst hji; exact hy.wpOp hi ⟨.inr (Grows.refl _), H⟩
    · have hjin := ready_mono hj hji
      obtain ⟨hun, oj, hoj, hall⟩ := mem_ready.1 hj
      have hiun := (mem_ready.1 hr).1
      have hjh : j ∉ hard := by
        intro hjh
        rcases hhard j hjh with h | h
        · rw [hun] at h; exact absurd h Bool.false_ne_true
        · have hx := hcl.anc ops.size j i oj hoj hall h
          rcases Nat.lt_or_ge i listed.size with hlt | hge
          · simp [hlt] at hiun hx; rw [hiun] at hx; exact absurd hx Bool.false_ne_true
          · simp [Array.getElem?_eq_none hge] at hx
      have hno : ∀ e ∈ oj.after, Region.binds md e = true → e.on ≠ i := by
        intro e he hb heq
        have hx := hall e he hb
        rw [heq] at hx
        rcases Nat.lt_or_ge i listed.size with hlt | hge
        · simp [hlt] at hiun hx; rw [hiun] at hx; exact absurd hx Bool.false_ne_true
        · simp [Array.getElem?_eq_none hge] at hx
      have hs := wpOp_swap hoj (hfree j oj hoj hji hun hno) (fun cs b => hsel i oi cs b hi) (fun cs b => hsel j oj cs b hoj) hQ (H.2 j hjin)
      refine wpOp_mono (fun a' w' hh => ?_) hs
      have hg : Grows w w' := hh.2.1.resolve_left hjh
      refine ⟨.inr hg, ?_⟩
      refine ih (listed.setIfInBounds j true) a' w' (hcl.add hj) (fun k hk => (hhard k hk).imp (fun h => ?_) id) (fun k ok hk hki hku hkn => hfree k ok hk hki ?_ hkn) (ready_mono hr (Ne.symm hji)) (hy.grow hg hh.1.1 hh.1.2) ?_
      · by_cases hjk : j = k
        · subst hjk; exact absurd hk hjh
        · rw [getD_set_ne true hjk]; exact h
      · by_cases hjk : j = k
        · subst hjk; exact hun
        · rwa [getD_set_ne true hjk] at hku
      · rw [Array.setIfInBounds_comm _ _ hji]
        exact hh.2.2

/-- The walk in an order of one's choice: each operation's number with a mark: 0: one value in whatever grown world; 1: the only one that may come up, and lets the world grow; 2: the only one that may come up, whatever it writes. -/
def wpLinH (P : Program) (ops : Array Oper) (Q : Exit → Act → World → Prop) : List (Nat × Nat) → Act → World → Prop
  | [], a, w => Q .normal a w
  | (i, 0) :: rest, a, w => ∃ o, ops[i]? = some o ∧ ∃ v, Steady P ops o v a w ∧ wpLinH P ops Q rest (a.put o.dst v) w
  | (i, 1) :: rest, a, w => ∃ o, ops[i]? = some o ∧ if Region.wanted o (yielded ops a.tmps) = true then o.wp P a w (fun a' w' => Grows w w' ∧ wpLinH P ops Q rest a' w') Q else wpLinH P ops Q rest (a.put o.dst undef) w
  | (i, _ + 2) :: rest, a, w => ∃ o, ops[i]? = some o ∧ if Region.wanted o (yielded ops a.tmps) = true then o.wp P a w (fun a' w' => wpLinH P ops Q rest a' w') Q else wpLinH P ops Q rest (a.put o.dst undef) w

def linFromH (md : Region.Mode) (ops : Array Oper) (hard : List Nat) : List (Nat × Nat) → Array Bool → Bool
  | [], listed => (Region.ready md ops listed).isEmpty
  | (k, 0) :: fl, listed => (Region.ready md ops listed).contains k && Region.free md ops listed k && !hard.contains k && hard.all (fun j => listed.getD j true || (ancs md ops ops.size j).contains k) && linFromH md ops hard fl (listed.setIfInBounds k true)
  | (k, 1) :: fl, listed => (Region.ready md ops listed == [k]) && linFromH md ops hard fl (listed.setIfInBounds k true)
  | (k, _ + 2) :: fl, listed => (Region.ready md ops listed == [k]) && hard.contains k && linFromH md ops hard fl (listed.setIfInBounds k true)

theorem wpAnyH_lin {hard : List Nat} (hs : Region.noSelect ops = true) (hQ : ∀ (d : Option Tmp) (v : Value), ∀ c a w, Q (.panic c) (a.put d v) w → Q (.panic c) a w) :
    ∀ (l : List (Nat × Nat)) (listed : Array Bool) (a : Act) (w : World), Closed md ops listed → linFromH md ops hard l listed = true → wpLinH P ops Q l a w → wpAnyH P md ops Q hard l.length listed a w
  | [], _, _, _, _, hB, h => ⟨by simpa [linFromH] using hB, h⟩
  | (k, 0) :: l, listed, a, w, hcl, hB, h => by
    obtain ⟨o, h0, v, hy, hK⟩ := h
    simp only [linFromH, Bool.and_eq_true] at hB
    obtain ⟨⟨⟨⟨hr, hf⟩, hh1⟩, hh2⟩, hB'⟩ := hB
    have hr' : k ∈ Region.ready md ops listed := by simpa using hr
    refine wpAnyH_first h0 (Region.noSelect_spec hs) (hQ o.dst v) (by simpa using hh1) l.length listed a w hcl (fun j hj => ?_) (Region.free_spec h0 hf) hr' hy
      (wpAnyH_lin hs hQ l _ _ _ (hcl.add hr') hB' hK)
    have := List.all_eq_true.1 hh2 j hj
    simpa using this
  | (k, 1) :: l, listed, a, w, hcl, hB, h => by
    obtain ⟨o, h0, h⟩ := h
    simp only [linFromH, Bool.and_eq_true, beq_iff_eq] at hB
    obtain ⟨hr, hB'⟩ := hB
    refine ⟨fun hx => by rw [hr] at hx; exact absurd hx (List.cons_ne_nil _ _), fun i hi => ?_⟩
    have hcl' := hcl.add hi
    rw [hr, List.mem_singleton] at hi
    subst hi
    have hrest : ∀ a' w', wpLinH P ops Q l a' w' → wpAnyH P md ops Q hard l.length (listed.setIfInBounds i true) a' w' := fun a' w' hh => wpAnyH_lin hs hQ l _ _ _ hcl' hB' hh
    unfold wpOp
    rw [h0]
    simp only []
    split
    · rename_i hw
      rw [if_pos hw] at h
      exact .inl (Oper.wp_mono (fun a' w' hh => ⟨.inr hh.1, hrest a' w' hh.2⟩) h)
    · rename_i hw
      rw [if_neg hw] at h
      exact ⟨.inr (Grows.refl _), hrest _ _ h⟩
  | (k, m + 2) :: l, listed, a, w, hcl, hB, h => by
    obtain ⟨o, h0, h⟩ := h
    simp only [linFromH, Bool.and_eq_true, beq_iff_eq] at hB
    obtain ⟨⟨hr, hhd⟩, hB'⟩ := hB
    refine ⟨fun hx => by rw [hr] at hx; exact absurd hx (List.cons_ne_nil _ _), fun i hi => ?_⟩
    have hcl' := hcl.add hi
    rw [hr, List.mem_singleton] at hi
    subst hi
    have hrest : ∀ a' w', wpLinH P ops Q l a' w' → wpAnyH P md ops Q hard l.length (listed.setIfInBounds i true) a' w' := fun a' w' hh => wpAnyH_lin hs hQ l _ _ _ hcl' hB' hh
    unfold wpOp
    rw [h0]
    simp only []
    split
    · rename_i hw
      rw [if_pos hw] at h
      exact .inl (Oper.wp_mono (fun a' w' hh => ⟨.inl (by simpa using hhd), hrest a' w' hh⟩) h)
    · rename_i hw
      rw [if_neg hw] at h
      exact ⟨.inr (Grows.refl _), hrest _ _ h⟩

/-- The region's theorem. -/
theorem wp_region_linH {id : Nat} {a : Act} {w : World} {l : List Oper} (fl : List (Nat × Nat)) (hard : List Nat) (hm : P.follows .mixedOrders = true) (hB : (Region.noSelect l.toArray && (l.length == fl.length) && linFromH .any l.toArray hard fl (Array.replicate l.length false)) = true)
    (hQ : ∀ (d : Option Tmp) (v : Value), ∀ c a w, Q (.panic c) (a.put d v) w → Q (.panic c) a w)
    (h : wpLinH P l.toArray Q fl a w.drew) : (Code.region id l.toArray true).wp P Q a w := by
  simp only [Bool.and_eq_true, beq_iff_eq] at hB
  obtain ⟨⟨hs, hlen⟩, hB⟩ := hB
  refine wp_region_any hm ?_
  have key := wpAny_of_H _ _ _ _ (wpAnyH_lin (md := .any) hs hQ fl (Array.replicate l.length false) a w.drew (Closed.none _) hB h)
  rw [← hlen] at key
  simpa using key

theorem wpLinH_nil {a : Act} {w : World} (h : Q .normal a w) : wpLinH P ops Q [] a w := h
theorem wpLinH_take {i : Nat} {o : Oper} {rest : List (Nat × Nat)} {a : Act} {w : World} {v : Value} (hi : ops[i]? = some o) (hw : Region.wanted o (yielded ops a.tmps) = true) (hv : ∀ w', Grows w w' → o.quietAt P a (fun x => x = w') w' v)
    (h : ∀ K : Act → Prop, (∀ a, wpLinH P ops Q rest a w → K a) → K (a.put o.dst v)) : wpLinH P ops Q ((i, 0) :: rest) a w :=
  ⟨o, hi, v, .inl ⟨hw, hv⟩, h (fun a => wpLinH P ops Q rest a w) (fun _ h => h)⟩
theorem wpLinH_skip {i : Nat} {o : Oper} {rest : List (Nat × Nat)} {a : Act} {w : World} (hi : ops[i]? = some o) (hw : Region.wanted o (yielded ops a.tmps) = false)
    (h : ∀ K : Act → Prop, (∀ a, wpLinH P ops Q rest a w → K a) → K (a.put o.dst undef)) : wpLinH P ops Q ((i, 0) :: rest) a w :=
  ⟨o, hi, undef, .inr ⟨hw, rfl⟩, h (fun a => wpLinH P ops Q rest a w) (fun _ h => h)⟩
theorem wpLinH_do {i : Nat} {o : Oper} {rest : List (Nat × Nat)} {a : Act} {w : World} (hi : ops[i]? = some o)
    (h : ∀ K : Act → World → Prop, (∀ a w', Grows w w' → wpLinH P ops Q rest a w' → K a w') → if Region.wanted o (yielded ops a.tmps) = true then o.wp P a w K Q else K (a.put o.dst undef) w) :
    wpLinH P ops Q ((i, 1) :: rest) a w := by
  have := h (fun a' w' => Grows w w' ∧ wpLinH P ops Q rest a' w') (fun _ _ h1 h2 => ⟨h1, h2⟩)
  refine ⟨o, hi, ?_⟩
  split
  · rename_i hw; rwa [if_pos hw] at this
  · rename_i hw; rw [if_neg hw] at this; exact this.2
theorem wpLinH_hard {i : Nat} {o : Oper} {rest : List (Nat × Nat)} {a : Act} {w : World} (hi : ops[i]? = some o)
    (h : ∀ K : Act → World → Prop, (∀ a w', wpLinH P ops Q rest a w' → K a w') → if Region.wanted o (yielded ops a.tmps) = true then o.wp P a w K Q else K (a.put o.dst undef) w) :
    wpLinH P ops Q ((i, 2) :: rest) a w := by
  have := h (fun a' w' => wpLinH P ops Q rest a' w') (fun _ _ h2 => h2)
  refine ⟨o, hi, ?_⟩
  split
  · rename_i hw; rwa [if_pos hw] at this
  · rename_i hw; rw [if_neg hw] at this; exact this
end
end Go.Proofs.Ytlnlcmdbhkpnhaa
