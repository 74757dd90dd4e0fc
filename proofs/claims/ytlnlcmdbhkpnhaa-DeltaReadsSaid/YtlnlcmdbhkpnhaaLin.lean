/- A region that draws its order, walked once in the order of the text, though calls and appends in it make new memory: an operation that yields one value in every world that has grown out of the present one may be taken first; each other one must be the only one that may come up. No program. -/
import Derived.Test.YtlnlcmdbhkpnhaaApp
import Derived.Deep.Quiet
import Derived.Deep.QuietTactic
namespace Go.Proofs.Ytlnlcmdbhkpnhaa
open Go.RowKit

/-- w' has grown out of w: whatever was there is as it was. -/
def Grows (w w' : World) : Prop := Below w.heap.size w w'
theorem Grows.refl (w : World) : Grows w w := Below.refl _ _
theorem Grows.trans {a b c : World} (h : Grows a b) (k : Grows b c) : Grows a c := bmore h k
theorem Grows.alloc {w w' : World} (h : Grows w w') (o : Obj) : Grows w (w'.alloc o) := balloc h o
theorem Grows.drew {w w' : World} (h : Grows w w') : Grows w w'.drew := Below.drew h
/-- A draw counts for nothing. -/
theorem Grows.ofDrew {w w' : World} (h : Grows w w') : Grows w.drew w' := ⟨h.os, h.tape, h.output, h.size, h.block⟩
theorem Grows.toDrew {w w' : World} (h : Grows w.drew w') : Grows w w' := ⟨h.os, h.tape, h.output, h.size, h.block⟩
theorem Grows.cell {w w' : World} (h : Grows w w') {a : Addr} {v : Value} (hc : w.cell? a = some v) : w'.cell? a = some v :=
  (Below.cell h (World.block_lt_of_cell? w a hc)).trans hc
theorem Grows.cells {w w' : World} (h : Grows w w') {ao : Option Addr} {n : Nat} {f : Nat → Value} (hc : CellsAt w w.heap.size ao n f) : CellsAt w' w'.heap.size ao n f := hc.at h

section
variable {P : Program} {ops : Array Oper} {md : Region.Mode} {Q : Exit → Act → World → Prop}

/-- Any order from here on; each step lets the world grow. -/
def wpAnyG (P : Program) (md : Region.Mode) (ops : Array Oper) (Q : Exit → Act → World → Prop) : Nat → Array Bool → Act → World → Prop
  | 0, listed, a, w => Region.ready md ops listed = [] ∧ Q .normal a w
  | n + 1, listed, a, w => (Region.ready md ops listed = [] → Q .normal a w) ∧
      ∀ i ∈ Region.ready md ops listed, wpOp P ops Q i (fun a' w' => Grows w w' ∧ wpAnyG P md ops Q n (listed.setIfInBounds i true) a' w') a w

theorem wpAny_of_G : ∀ (n : Nat) (listed : Array Bool) (a : Act) (w : World), wpAnyG P md ops Q n listed a w → wpAny P md ops Q n listed a w
  | 0, _, _, _, h => h
  | n + 1, _, _, _, h => ⟨h.1, fun i hi => wpOp_mono (fun a' w' hh => wpAny_of_G n _ a' w' hh.2) (h.2 i hi)⟩

/-- One value in every world that has grown out of w. -/
def Steady (P : Program) (ops : Array Oper) (o : Oper) (v : Value) (a : Act) (w : World) : Prop :=
  (Region.wanted o (yielded ops a.tmps) = true ∧ ∀ w', Grows w w' → o.quietAt P a (fun x => x = w') w' v) ∨
  (Region.wanted o (yielded ops a.tmps) = false ∧ v = undef)
theorem Steady.grow {o : Oper} {v : Value} {a a' : Act} {w w' : World} (h : Steady P ops o v a w) (hg : Grows w w') (he : execOp a'.eval o = execOp a.eval o)
    (hw : Region.wanted o (yielded ops a'.tmps) = Region.wanted o (yielded ops a.tmps)) : Steady P ops o v a' w' := by
  unfold Steady Oper.quietAt at *
  rw [he, hw]
  exact h.imp (fun x => ⟨x.1, fun w2 h2 => x.2 w2 (hg.trans h2)⟩) id
theorem Steady.wpOp {i : Nat} {o : Oper} {v : Value} {a : Act} {w : World} (hi : ops[i]? = some o) (hy : Steady P ops o v a w) {K : Act → World → Prop} (h : K (a.put o.dst v) w) : wpOp P ops Q i K a w := by
  unfold Go.wpOp
  simp only [hi]
  rcases hy with ⟨hw, hv⟩ | ⟨hw, rfl⟩
  · rw [if_pos hw]
    exact .inl (Oper.wp_of_quiet (C := fun x => x = w) (K := fun a' => K a' w) rfl (fun a' w' e k => by subst e; exact k) ⟨v, fun x hx => by subst hx; exact hv x (Grows.refl x), h⟩)
  · rw [if_neg (by rw [hw]; exact Bool.false_ne_true)]
    exact h

/-- Operation oj, apart from oi: whether oi's value is in its slot already makes no difference. -/
theorem wpOp_swap {j : Nat} {oi oj : Oper} {v : Value} (hj : ops[j]? = some oj) (hap : oi.apart ops oj = true) (hsi : ∀ cs b, oi.op ≠ .select cs b) (hsj : ∀ cs b, oj.op ≠ .select cs b)
    (hQ : ∀ c a w, Q (.panic c) (a.put oi.dst v) w → Q (.panic c) a w) {K : Act → World → Prop} {a : Act} {w : World} (h : wpOp P ops Q j K (a.put oi.dst v) w) :
    wpOp P ops Q j (fun a' w' => (execOp a'.eval oi = execOp a.eval oi ∧ Region.wanted oi (yielded ops a'.tmps) = Region.wanted oi (yielded ops a.tmps)) ∧ K (a'.put oi.dst v) w') a w := by
  obtain ⟨h1, h2, h3⟩ := Oper.apart_spec hap
  have hput : ∀ (b : Act) (u : Value), execOp (b.put oj.dst u).eval oi = execOp b.eval oi ∧ Region.wanted oi (yielded ops (b.put oj.dst u).tmps) = Region.wanted oi (yielded ops b.tmps) :=
    fun b u => ⟨execOp_put oi hsi b oj.dst u h3, wanted_put oi b oj.dst u h3⟩
  have hex := execOp_put oj hsj a oi.dst v h1
  have hwa := wanted_put (ops := ops) oj a oi.dst v h1
  unfold wpOp at h ⊢
  rw [hj] at h ⊢
  simp only [] at h ⊢
  rw [hwa] at h
  by_cases hw : Region.wanted oj (yielded ops a.tmps) = true
  · rw [if_pos hw] at h ⊢
    rcases h with h | ⟨hk, hl⟩
    · refine .inl ?_
      unfold Oper.wp at h ⊢
      rw [hex] at h
      revert h
      generalize (execOp a.eval oj).run P w = r
      intro h
      cases r with
      | halt x w' => cases x <;> first | exact h | exact hQ _ _ _ h
      | ok x w' =>
        cases x with
        | value u => exact ⟨hput a u, by rw [← Act.put_comm a v u h2]; exact h⟩
        | skip => exact ⟨hput a _, by rw [← Act.put_comm a v undef h2]; exact h⟩
        | defer d =>
          refine ⟨hput _ _, ?_⟩
          have h' : K (({ a.put oi.dst v with defers := d :: (a.put oi.dst v).defers } : Act).put oj.dst undef) w' := h
          rw [Act.put_defers, Act.put_comm _ v undef h2] at h'
          exact h'
        | enter f args =>
          refine Calls.mono (show Calls P f args w' _ from h) fun e w2 he => ?_
          cases e with
          | returned u => exact ⟨hput a u, by rw [← Act.put_comm a v u h2]; exact he⟩
          | panicked c => exact hQ _ _ _ he
          | outgrown => exact he
        | row r args => exact Rows.mono (show Rows P r args w' _ from h) fun u w2 he => ⟨hput a u, by rw [← Act.put_comm a v u h2]; exact he⟩
        | _ => exact (show False from h).elim
    · exact .inr ⟨by unfold Oper.asks at hk ⊢; rwa [hex] at hk, hl⟩
  · rw [if_neg hw] at h ⊢
    exact ⟨hput a _, by rw [← Act.put_comm a v undef h2]; exact h⟩

theorem wpAnyG_first {i : Nat} {oi : Oper} {v : Value} (hi : ops[i]? = some oi) (hsel : ∀ (j : Nat) (o : Oper) cs b, ops[j]? = some o → o.op ≠ .select cs b)
    (hQ : ∀ c a w, Q (.panic c) (a.put oi.dst v) w → Q (.panic c) a w) :
    ∀ (n : Nat) (listed : Array Bool) (a : Act) (w : World),
      (∀ j oj, ops[j]? = some oj → j ≠ i → listed.getD j true = false → (∀ e ∈ oj.after, Region.binds md e = true → e.on ≠ i) → oi.apart ops oj = true) →
      i ∈ Region.ready md ops listed → Steady P ops oi v a w →
      wpAnyG P md ops Q n (listed.setIfInBounds i true) (a.put oi.dst v) w → wpAnyG P md ops Q (n + 1) listed a w := by
  intro n
  induction n with
  | zero =>
    intro listed a w _ hr hy H
    refine ⟨fun h => absurd hr (by rw [h]; exact List.not_mem_nil), fun j hj => ?_⟩
    by_cases hji : j = i
    · subst hji; exact hy.wpOp hi ⟨Grows.refl _, H⟩
    · have := ready_mono hj hji
      rw [H.1] at this
      exact absurd this List.not_mem_nil
  | succ n ih =>
    intro listed a w hfree hr hy H
    refine ⟨fun h => absurd hr (by rw [h]; exact List.not_mem_nil), fun j hj => ?_⟩
    by_cases hji : j = i
    · subst hji; exact hy.wpOp hi ⟨Grows.refl _, H⟩
    · have hjin := ready_mono hj hji
      obtain ⟨hun, oj, hoj, hall⟩ := mem_ready.1 hj
      have hiun := (mem_ready.1 hr).1
      have hno : ∀ e ∈ oj.after, Region.binds md e = true → e.on ≠ i := by
        intro e he hb heq
        have hx := hall e he hb
        rw [heq] at hx
        rcases Nat.lt_or_ge i listed.size with hlt | hge
        · simp [hlt] at hiun hx; rw [hiun] at hx; exact absurd hx Bool.false_ne_true
        · simp [Array.getElem?_eq_none hge] at hx
      have hs := wpOp_swap hoj (hfree j oj hoj hji hun hno) (fun cs b => hsel i oi cs b hi) (fun cs b => hsel j oj cs b hoj) hQ (H.2 j hjin)
      refine wpOp_mono (fun a' w' hh => ⟨hh.2.1, ?_⟩) hs
      refine ih (listed.setIfInBounds j true) a' w' (fun k ok hk hki hku hkn => hfree k ok hk hki ?_ hkn) (ready_mono hr (Ne.symm hji)) (hy.grow hh.2.1 hh.1.1 hh.1.2) ?_
      · by_cases hjk : j = k
        · subst hjk; exact hun
        · rwa [getD_set_ne true hjk] at hku
      · rw [Array.setIfInBounds_comm _ _ hji]
        exact hh.2.2

/-- The walk in an order of one's choice: each operation's number with a mark: true: one value in whatever grown world; false: the only one that may come up. -/
def wpLin (P : Program) (ops : Array Oper) (Q : Exit → Act → World → Prop) : List (Nat × Bool) → Act → World → Prop
  | [], a, w => Q .normal a w
  | (i, true) :: rest, a, w => ∃ o, ops[i]? = some o ∧ ∃ v, Steady P ops o v a w ∧ wpLin P ops Q rest (a.put o.dst v) w
  | (i, false) :: rest, a, w => ∃ o, ops[i]? = some o ∧ if Region.wanted o (yielded ops a.tmps) = true then o.wp P a w (fun a' w' => Grows w w' ∧ wpLin P ops Q rest a' w') Q else wpLin P ops Q rest (a.put o.dst undef) w

def linFrom (md : Region.Mode) (ops : Array Oper) : List (Nat × Bool) → Array Bool → Bool
  | [], listed => (Region.ready md ops listed).isEmpty
  | (k, true) :: fl, listed => (Region.ready md ops listed).contains k && Region.free md ops listed k && linFrom md ops fl (listed.setIfInBounds k true)
  | (k, false) :: fl, listed => (Region.ready md ops listed == [k]) && linFrom md ops fl (listed.setIfInBounds k true)

theorem wpAnyG_lin (hs : Region.noSelect ops = true) (hQ : ∀ (d : Option Tmp) (v : Value), ∀ c a w, Q (.panic c) (a.put d v) w → Q (.panic c) a w) :
    ∀ (l : List (Nat × Bool)) (listed : Array Bool) (a : Act) (w : World), linFrom md ops l listed = true → wpLin P ops Q l a w → wpAnyG P md ops Q l.length listed a w
  | [], _, _, _, hB, h => ⟨by simpa [linFrom] using hB, h⟩
  | (k, true) :: l, listed, a, w, hB, h => by
    obtain ⟨o, h0, v, hy, hK⟩ := h
    simp only [linFrom, Bool.and_eq_true] at hB
    obtain ⟨⟨hr, hf⟩, hB'⟩ := hB
    exact wpAnyG_first h0 (Region.noSelect_spec hs) (hQ o.dst v) l.length listed a w (Region.free_spec h0 hf) (by simpa using hr) hy
      (wpAnyG_lin hs hQ l _ _ _ hB' hK)
  | (k, false) :: l, listed, a, w, hB, h => by
    obtain ⟨o, h0, h⟩ := h
    simp only [linFrom, Bool.and_eq_true, beq_iff_eq] at hB
    obtain ⟨hr, hB'⟩ := hB
    refine ⟨fun hx => by rw [hr] at hx; exact absurd hx (List.cons_ne_nil _ _), fun i hi => ?_⟩
    rw [hr, List.mem_singleton] at hi
    subst hi
    have hrest : ∀ a' w', wpLin P ops Q l a' w' → wpAnyG P md ops Q l.length (listed.setIfInBounds i true) a' w' := fun a' w' hh => wpAnyG_lin hs hQ l _ _ _ hB' hh
    unfold wpOp
    rw [h0]
    simp only []
    split
    · rename_i hw
      rw [if_pos hw] at h
      exact .inl (Oper.wp_mono (fun a' w' hh => ⟨hh.1, hrest a' w' hh.2⟩) h)
    · rename_i hw
      rw [if_neg hw] at h
      exact ⟨Grows.refl _, hrest _ _ h⟩

/-- The region's theorem. -/
theorem wp_region_lin {id : Nat} {a : Act} {w : World} {l : List Oper} (fl : List (Nat × Bool)) (hm : P.follows .mixedOrders = true) (hB : (Region.noSelect l.toArray && (l.length == fl.length) && linFrom .any l.toArray fl (Array.replicate l.length false)) = true)
    (hQ : ∀ (d : Option Tmp) (v : Value), ∀ c a w, Q (.panic c) (a.put d v) w → Q (.panic c) a w)
    (h : wpLin P l.toArray Q fl a w.drew) : (Code.region id l.toArray true).wp P Q a w := by
  simp only [Bool.and_eq_true, beq_iff_eq] at hB
  obtain ⟨⟨hs, hlen⟩, hB⟩ := hB
  refine wp_region_any hm ?_
  have key := wpAny_of_G _ _ _ _ (wpAnyG_lin (md := .any) hs hQ fl (Array.replicate l.length false) a w.drew hB h)
  rw [← hlen] at key
  simpa using key

theorem wpLin_nil {a : Act} {w : World} (h : Q .normal a w) : wpLin P ops Q [] a w := h
theorem wpLin_take {i : Nat} {o : Oper} {rest : List (Nat × Bool)} {a : Act} {w : World} {v : Value} (hi : ops[i]? = some o) (hw : Region.wanted o (yielded ops a.tmps) = true) (hv : ∀ w', Grows w w' → o.quietAt P a (fun x => x = w') w' v)
    (h : ∀ K : Act → Prop, (∀ a, wpLin P ops Q rest a w → K a) → K (a.put o.dst v)) : wpLin P ops Q ((i, true) :: rest) a w :=
  ⟨o, hi, v, .inl ⟨hw, hv⟩, h (fun a => wpLin P ops Q rest a w) (fun _ h => h)⟩
theorem wpLin_skip {i : Nat} {o : Oper} {rest : List (Nat × Bool)} {a : Act} {w : World} (hi : ops[i]? = some o) (hw : Region.wanted o (yielded ops a.tmps) = false)
    (h : ∀ K : Act → Prop, (∀ a, wpLin P ops Q rest a w → K a) → K (a.put o.dst undef)) : wpLin P ops Q ((i, true) :: rest) a w :=
  ⟨o, hi, undef, .inr ⟨hw, rfl⟩, h (fun a => wpLin P ops Q rest a w) (fun _ h => h)⟩
theorem wpLin_do {i : Nat} {o : Oper} {rest : List (Nat × Bool)} {a : Act} {w : World} (hi : ops[i]? = some o)
    (h : ∀ K : Act → World → Prop, (∀ a w', Grows w w' → wpLin P ops Q rest a w' → K a w') → if Region.wanted o (yielded ops a.tmps) = true then o.wp P a w K Q else K (a.put o.dst undef) w) :
    wpLin P ops Q ((i, false) :: rest) a w := by
  have := h (fun a' w' => Grows w w' ∧ wpLin P ops Q rest a' w') (fun _ _ h1 h2 => ⟨h1, h2⟩)
  refine ⟨o, hi, ?_⟩
  split
  · rename_i hw; rwa [if_pos hw] at this
  · rename_i hw; rw [if_neg hw] at this; exact this.2
end
end Go.Proofs.Ytlnlcmdbhkpnhaa
