/- A region that draws its order, in which operations that nothing orders make new memory: one step for each operation, from what its own operands are known to be. No program. -/
import Derived.Test.YtpcfelccanmggaaLin
namespace Go.Proofs.Ytpcfelccanmggaa
open Go.RowKit

section
variable {P : Program} {ops : Array Oper} {md : Region.Mode} {Q : Exit → Act → World → Prop}

def dstOf (ops : Array Oper) (j : Nat) : Option Tmp := (ops[j]?).bind (·.dst)

/-- The frame with these operations' values in their slots; the last one first. -/
def acts (a : Act) (σ : Nat → Value) : List (Nat × Option Tmp) → Act
  | [] => a
  | (i, d) :: l => (acts a σ l).put d (σ i)

theorem acts_defers (a : Act) (σ : Nat → Value) : ∀ l : List (Nat × Option Tmp), (acts a σ l).defers = a.defers
  | [] => rfl
  | (i, d) :: l => by
    have h := acts_defers a σ l
    cases d <;> exact h
theorem acts_size (a : Act) (σ : Nat → Value) : ∀ l : List (Nat × Option Tmp), (acts a σ l).tmps.size = a.tmps.size
  | [] => rfl
  | (i, d) :: l => by
    have h := acts_size a σ l
    cases d with
    | none => exact h
    | some d => simpa [acts, Act.put] using h
theorem acts_out (a : Act) (σ : Nat → Value) (t : Nat) : ∀ l : List (Nat × Option Tmp), (∀ p ∈ l, p.2 ≠ some t) → (acts a σ l).tmps[t]? = a.tmps[t]?
  | [], _ => rfl
  | (i, d) :: l, h => by
    have ih := acts_out a σ t l (fun p hp => h p (List.mem_cons_of_mem _ hp))
    cases d with
    | none => exact ih
    | some d =>
      have hne : d ≠ t := fun e => h (i, some d) (List.mem_cons_self ..) (by rw [e])
      simpa [acts, Act.put, Array.getElem?_setIfInBounds_ne hne] using ih
theorem acts_in (a : Act) (σ : Nat → Value) (t j : Nat) : ∀ l : List (Nat × Option Tmp), (j, some t) ∈ l → (∀ p ∈ l, p.2 = some t → p.1 = j) → (acts a σ l).tmps[t]? = if t < a.tmps.size then some (σ j) else none
  | [], h, _ => absurd h List.not_mem_nil
  | (i, d) :: l, h, hu => by
    by_cases hd : d = some t
    · subst hd
      obtain rfl : i = j := hu (i, some t) (List.mem_cons_self ..) rfl
      simp [acts, Act.put, Array.getElem?_setIfInBounds_self, acts_size]
    · have hm : (j, some t) ∈ l := by
        rcases List.mem_cons.1 h with h | h
        · exact absurd (congrArg Prod.snd h).symm hd
        · exact h
      have ih := acts_in a σ t j l hm (fun p hp => hu p (List.mem_cons_of_mem _ hp))
      cases d with
      | none => exact ih
      | some d =>
        have hne : d ≠ t := fun e => hd (by rw [e])
        simpa [acts, Act.put, Array.getElem?_setIfInBounds_ne hne] using ih
theorem acts_congr (a : Act) {σ τ : Nat → Value} : ∀ l : List (Nat × Option Tmp), (∀ p ∈ l, σ p.1 = τ p.1) → acts a σ l = acts a τ l
  | [], _ => rfl
  | (i, d) :: l, h => by
    rw [acts, acts, acts_congr a l (fun p hp => h p (List.mem_cons_of_mem _ hp)), h (i, d) (List.mem_cons_self ..)]

theorem act_same {a b : Act} (h1 : a.defers = b.defers) (h2 : ∀ t : Nat, a.tmps[t]? = b.tmps[t]?) : a = b := by
  obtain ⟨ta, da⟩ := a
  obtain ⟨tb, db⟩ := b
  simp only at h1
  have : ta = tb := Array.ext_getElem? h2
  rw [h1, this]

/-- Unlike destinations. -/
def Unlike (l : List (Nat × Option Tmp)) : Prop := ∀ p ∈ l, ∀ q ∈ l, ∀ t, p.2 = some t → q.2 = some t → p.1 = q.1

theorem acts_set (a : Act) (σ : Nat → Value) {l m : List (Nat × Option Tmp)} (hu : Unlike m) (h : ∀ p, p ∈ l ↔ p ∈ m) : acts a σ l = acts a σ m := by
  refine act_same (by rw [acts_defers, acts_defers]) fun t => ?_
  by_cases hx : ∃ j, (j, some t) ∈ m
  · obtain ⟨j, hj⟩ := hx
    rw [acts_in a σ t j m hj (fun p hp he => hu p hp (j, some t) hj t he rfl), acts_in a σ t j l ((h _).2 hj) (fun p hp he => hu p ((h p).1 hp) (j, some t) hj t he rfl)]
  · have hm : ∀ p ∈ m, p.2 ≠ some t := fun p hp he => hx ⟨p.1, by rw [← he]; exact hp⟩
    rw [acts_out a σ t m hm, acts_out a σ t l (fun p hp => hm p ((h p).1 hp))]

/-- What an operation looks at reads alike in two frames that agree there. -/
theorem execOp_look (o : Oper) (hs : ∀ cs b, o.op ≠ .select cs b) {a b : Act} (h : ∀ t ∈ o.looksAt ops, a.tmps[t]? = b.tmps[t]?) : execOp a.eval o = execOp b.eval o :=
  execOp_congr o hs fun x hx => by
    cases x with
    | tmp t =>
      have := h t (List.mem_append_left _ (List.mem_filterMap.2 ⟨.tmp t, by simpa using hx, rfl⟩))
      simp [Act.eval, this]
    | _ => rfl
theorem wanted_look (o : Oper) {a b : Act} (h : ∀ t ∈ o.looksAt ops, a.tmps[t]? = b.tmps[t]?) : Region.wanted o (yielded ops a.tmps) = Region.wanted o (yielded ops b.tmps) := by
  unfold Region.wanted
  cases hg : o.guard with
  | none => rfl
  | some gw =>
    obtain ⟨g, want⟩ := gw
    have hy : yielded ops a.tmps g = yielded ops b.tmps g := by
      unfold yielded
      cases ht : (ops[g]?).bind (·.dst) with
      | none => rfl
      | some t => simp [h t (by simp [Oper.looksAt, hg, ht])]
    simp only [hy]

/-- One operation's step: in whatever grown world in which its operands are what they are said to be. -/
def relyStep (P : Program) (ops : Array Oper) (Q : Exit → Act → World → Prop) (Φ : Nat → Value → World → Prop) (w : World) (i : Nat) (o : Oper) : List (Nat × Tmp) → Act → Prop
  | [], a => ∀ K : Act → World → Prop, (∀ v w', Grows w w' → Φ i v w' → K (a.put o.dst v) w') → if Region.wanted o (yielded ops a.tmps) = true then o.wp P a w K Q else K (a.put o.dst undef) w
  | (j, d) :: l, a => ∀ v, Φ j v w → relyStep P ops Q Φ w i o l (a.put (some d) v)
def relySteps (P : Program) (ops : Array Oper) (Q : Exit → Act → World → Prop) (Φ : Nat → Value → World → Prop) (a : Act) (w : World) : List (Nat × Option Tmp × List (Nat × Tmp)) → Prop
  | [] => True
  | (i, _, deps) :: l => (∃ o, ops[i]? = some o ∧ ∀ w', Grows w w' → relyStep P ops Q Φ w' i o deps a) ∧ relySteps P ops Q Φ a w l
def relyEnd (Q : Exit → Act → World → Prop) (Φ : Nat → Value → World → Prop) (w : World) : List (Nat × Option Tmp × List (Nat × Tmp)) → Act → Prop
  | [], a => Q .normal a w
  | (i, d, _) :: l, a => ∀ v, Φ i v w → relyEnd Q Φ w l (a.put d v)

def relyOk (md : Region.Mode) (ops : Array Oper) (listed : Array Bool) (plan : List (Nat × Option Tmp × List (Nat × Tmp))) : Bool :=
  Region.noSelect ops &&
  (List.range ops.size).all (fun j => listed.getD j true || plan.any fun p => p.1 == j) &&
  (plan.map (·.1)).all (fun i => plan.countP (fun p => p.1 == i) == 1) &&
  plan.all fun (i, d, deps) => !listed.getD i true && (match ops[i]? with
    | none => false
    | some o => d == o.dst &&
      (match d with | some t => plan.all fun q => q.1 == i || q.2.1 != some t | none => true) &&
      deps.all (fun (j, t) => o.after.any (fun e => Region.binds md e && e.on == j) && plan.any fun q => q.1 == j && q.2.1 == some t) &&
      (plan.all fun q => match q.2.1 with | some t => !(o.looksAt ops).contains t || deps.contains (q.1, t) | none => true) &&
      o.after.all fun e => !Region.binds md e || decide (e.on < i))

/-- Steps of the plan, taken apart. -/
theorem relySteps_at {Φ : Nat → Value → World → Prop} {a : Act} {w : World} : ∀ {plan : List (Nat × Option Tmp × List (Nat × Tmp))}, relySteps P ops Q Φ a w plan → ∀ p ∈ plan, ∃ o, ops[p.1]? = some o ∧ ∀ w', Grows w w' → relyStep P ops Q Φ w' p.1 o p.2.2 a
  | (i, d, deps) :: l, h, p, hp => by
    rcases List.mem_cons.1 hp with rfl | hp
    · exact h.1
    · exact relySteps_at h.2 p hp
/-- The operands' values, put one after the other. -/
theorem relyStep_at {Φ : Nat → Value → World → Prop} {w : World} {i : Nat} {o : Oper} (σ : Nat → Value) : ∀ (deps : List (Nat × Tmp)) (a : Act), (∀ p ∈ deps, Φ p.1 (σ p.1) w) → relyStep P ops Q Φ w i o deps a →
    relyStep P ops Q Φ w i o [] (acts a σ (deps.map fun p => (p.1, some p.2)).reverse) := by
  intro deps
  have key : ∀ (deps : List (Nat × Tmp)) (a b : Act) (l : List (Nat × Option Tmp)), b = acts a σ l → (∀ p ∈ deps, Φ p.1 (σ p.1) w) → relyStep P ops Q Φ w i o deps b →
      relyStep P ops Q Φ w i o [] (acts a σ ((deps.map fun p => (p.1, some p.2)).reverse ++ l)) := by
    intro deps
    induction deps with
    | nil => intro a b l hb _ h; subst hb; simpa using h
    | cons p deps ih =>
      intro a b l hb hΦ h
      have := ih a (b.put (some p.2) (σ p.1)) ((p.1, some p.2) :: l) (by rw [acts, hb]) (fun q hq => hΦ q (List.mem_cons_of_mem _ hq)) (h _ (hΦ p (List.mem_cons_self ..)))
      simpa using this
  intro a hΦ h
  have := key deps a a [] rfl hΦ h
  simpa using this
theorem relyEnd_at {Φ : Nat → Value → World → Prop} {w : World} (σ : Nat → Value) (plan : List (Nat × Option Tmp × List (Nat × Tmp))) (a : Act) (hΦ : ∀ p ∈ plan, Φ p.1 (σ p.1) w) (h : relyEnd Q Φ w plan a) :
    Q .normal (acts a σ (plan.map fun p => (p.1, p.2.1)).reverse) w := by
  have key : ∀ (plan : List (Nat × Option Tmp × List (Nat × Tmp))) (a b : Act) (l : List (Nat × Option Tmp)), b = acts a σ l → (∀ p ∈ plan, Φ p.1 (σ p.1) w) → relyEnd Q Φ w plan b →
      Q .normal (acts a σ ((plan.map fun p => (p.1, p.2.1)).reverse ++ l)) w := by
    intro plan
    induction plan with
    | nil => intro a b l hb _ h; subst hb; simpa [relyEnd] using h
    | cons p plan ih =>
      intro a b l hb hΦ h
      have := ih a (b.put p.2.1 (σ p.1)) ((p.1, p.2.1) :: l) (by rw [acts, hb]) (fun q hq => hΦ q (List.mem_cons_of_mem _ hq)) (h _ (hΦ p (List.mem_cons_self ..)))
      simpa using this
  have := key plan a a [] rfl hΦ h
  simpa using this

theorem put_same {a b : Act} (hs : a.tmps.size = b.tmps.size) {d : Option Tmp} {u v : Value} (h : a.put d u = a.put d v) : b.put d u = b.put d v := by
  cases d with
  | none => rfl
  | some d =>
    by_cases hd : d < a.tmps.size
    · have h1 : (a.put (some d) u).tmps[d]? = (a.put (some d) v).tmps[d]? := by rw [h]
      simp [Act.put, hd] at h1
      rw [h1]
    · have hb : ¬ d < b.tmps.size := fun h => hd (hs ▸ h)
      simp [Act.put, Array.setIfInBounds, hb]

/-- An operation's step in another frame that reads alike where it looks. -/
theorem wpOp_frame {i : Nat} {o : Oper} (ho : ops[i]? = some o) (hs : ∀ cs b, o.op ≠ .select cs b) {a b : Act} {w : World} {R : Value → World → Prop}
    (hl : ∀ t ∈ o.looksAt ops, a.tmps[t]? = b.tmps[t]?) (hsz : a.tmps.size = b.tmps.size) (hQ : ∀ c w, Q (.panic c) a w → Q (.panic c) b w)
    (h : ∀ K : Act → World → Prop, (∀ v w', Grows w w' → R v w' → K (a.put o.dst v) w') → if Region.wanted o (yielded ops a.tmps) = true then o.wp P a w K Q else K (a.put o.dst undef) w)
    {K : Act → World → Prop} (hK : ∀ v w', Grows w w' → R v w' → K (b.put o.dst v) w') (hd : ∀ (e : Deferred) (a' : Act), a' = ({ a with defers := e :: a.defers } : Act).put o.dst undef → ¬ ∃ v, a' = a.put o.dst v) : wpOp P ops Q i K b w := by
  have h' := h (fun a' w' => ∃ v, a' = a.put o.dst v ∧ Grows w w' ∧ R v w') (fun v w' hg hr => ⟨v, rfl, hg, hr⟩)
  have hex := execOp_look (ops := ops) o hs hl
  have hwa := wanted_look (ops := ops) o hl
  unfold wpOp
  rw [ho]
  simp only []
  rw [← hwa]
  split
  · rename_i hw
    rw [if_pos hw] at h'
    refine .inl ?_
    unfold Oper.wp at h' ⊢
    rw [← hex]
    revert h'
    generalize (execOp a.eval o).run P w = r
    intro h'
    cases r with
    | halt x w' => cases x <;> first | exact h' | exact hQ _ _ h'
    | ok x w' =>
      cases x with
      | value u =>
        obtain ⟨v, e1, hg, hr⟩ := h'
        have := hK v w' hg hr
        rw [← put_same hsz e1] at this
        exact this
      | skip =>
        obtain ⟨v, e1, hg, hr⟩ := h'
        have := hK v w' hg hr
        rw [← put_same hsz e1] at this
        exact this
      | defer d =>
        obtain ⟨v, e1, hg, hr⟩ := h'
        exact absurd ⟨v, e1⟩ (hd d _ rfl)
      | enter f args =>
        refine Calls.mono (show Calls P f args w' _ from h') fun e w2 he => ?_
        cases e with
        | returned u =>
          obtain ⟨v, e1, hg, hr⟩ := he
          have := hK v w2 hg hr
          rw [← put_same hsz e1] at this
          exact this
        | panicked c => exact hQ _ _ he
        | outgrown => exact he
      | row r args =>
        refine Rows.mono (show Rows P r args w' _ from h') fun u w2 he => ?_
        obtain ⟨v, e1, hg, hr⟩ := he
        have := hK v w2 hg hr
        rw [← put_same hsz e1] at this
        exact this
      | _ => exact (show False from h').elim
  · rename_i hw
    rw [if_neg hw] at h'
    obtain ⟨v, e1, hg, hr⟩ := h'
    have := hK v w hg hr
    rw [← put_same hsz e1] at this
    exact this

theorem no_defer (a : Act) (e : Deferred) (d : Option Tmp) (a' : Act) (h : a' = ({ a with defers := e :: a.defers } : Act).put d undef) : ¬ ∃ v, a' = a.put d v := by
  rintro ⟨v, h2⟩
  rw [h] at h2
  have h3 : (({ a with defers := e :: a.defers } : Act).put d undef).defers = (a.put d v).defers := by rw [h2]
  have h4 : (({ a with defers := e :: a.defers } : Act).put d undef).defers = e :: a.defers := by cases d <;> rfl
  have h5 : (a.put d v).defers = a.defers := by cases d <;> rfl
  rw [h4, h5] at h3
  have := congrArg List.length h3
  simp at this

theorem ready_nil {listed : Array Bool} (he : ∀ (i : Nat) (o : Oper), ops[i]? = some o → listed.getD i true = false → ∀ e ∈ o.after, Region.binds md e = true → e.on < i)
    (hn : Region.ready md ops listed = []) : ∀ i, i < ops.size → i < listed.size → listed.getD i true = true := by
  intro i
  induction i using Nat.strongRecOn with
  | _ i ih =>
    intro hi hl
    cases hx : listed.getD i true with
    | true => rfl
    | false =>
      exfalso
      have : i ∈ Region.ready md ops listed := by
        refine mem_ready.2 ⟨hx, ops[i], by simp [hi], fun e hee hb => ?_⟩
        have hlt := he i ops[i] (by simp [hi]) hx e hee hb
        have hk := ih e.on hlt (by omega) (by omega)
        have hs : e.on < listed.size := by omega
        simp [hs] at hk ⊢
        exact hk
      rw [hn] at this
      exact absurd this List.not_mem_nil

/-- The rest of a region by one step for each operation. -/
theorem wpAnyG_rely {Φ : Nat → Value → World → Prop} {plan : List (Nat × Option Tmp × List (Nat × Tmp))} {listed : Array Bool} {a : Act} {w : World} (hB : relyOk md ops listed plan = true) (hsz : listed.size = ops.size)
    (hst : ∀ i v w1 w2, Φ i v w1 → Grows w1 w2 → Φ i v w2) (hQ : ∀ (d : Option Tmp) (v : Value), ∀ c a w, Q (.panic c) (a.put d v) w → Q (.panic c) a w) (hQ' : ∀ (d : Option Tmp) (v : Value), ∀ c a w, Q (.panic c) a w → Q (.panic c) (a.put d v) w)
    (hsteps : relySteps P ops Q Φ a w plan) (hend : ∀ w', Grows w w' → relyEnd Q Φ w' plan a) (n : Nat) (hn : plan.length ≤ n) : wpAnyG P md ops Q n listed a w := by
  simp only [relyOk, Bool.and_eq_true] at hB
  obtain ⟨⟨⟨hsel, hall⟩, hcnt⟩, hpl⟩ := hB
  have hplan : ∀ p ∈ plan, listed.getD p.1 true = false ∧ ∃ o, ops[p.1]? = some o ∧ p.2.1 = o.dst ∧ (∀ t, p.2.1 = some t → ∀ q ∈ plan, q.2.1 = some t → q.1 = p.1) ∧
      (∀ q ∈ p.2.2, (∃ e ∈ o.after, Region.binds md e = true ∧ e.on = q.1) ∧ ∃ r ∈ plan, r.1 = q.1 ∧ r.2.1 = some q.2) ∧ (∀ q ∈ plan, ∀ t, q.2.1 = some t → t ∈ o.looksAt ops → (q.1, t) ∈ p.2.2) ∧ (∀ e ∈ o.after, Region.binds md e = true → e.on < p.1) := by
    rintro ⟨i, d, deps⟩ hp
    have h := List.all_eq_true.1 hpl _ hp
    simp only [Bool.and_eq_true, Bool.not_eq_true'] at h
    obtain ⟨h1, h2⟩ := h
    refine ⟨h1, ?_⟩
    cases ho : ops[i]? with
    | none => simp [ho] at h2
    | some o =>
      simp only [ho, Bool.and_eq_true, beq_iff_eq] at h2
      obtain ⟨⟨⟨⟨h3, h4⟩, h5⟩, h6⟩, h7⟩ := h2
      refine ⟨o, rfl, h3, ?_, ?_, ?_, ?_⟩
      · intro t ht q hq hqt
        simp only at ht
        subst ht
        have := List.all_eq_true.1 h4 q hq
        simp [hqt] at this
        exact this
      · rintro ⟨j, t⟩ hq
        have := List.all_eq_true.1 h5 _ hq
        simp only [Bool.and_eq_true] at this
        obtain ⟨g1, g2⟩ := this
        obtain ⟨e, he, hb⟩ := Array.any_eq_true'.1 g1
        obtain ⟨r, hr, hb2⟩ := List.any_eq_true.1 g2
        simp only [Bool.and_eq_true, beq_iff_eq] at hb hb2
        exact ⟨⟨e, he, hb.1, hb.2⟩, r, hr, hb2.1, hb2.2⟩
      · intro q hq t hqt hl
        have := List.all_eq_true.1 h6 q hq
        rw [hqt] at this
        simp at this
        rcases this with h | h
        · exact absurd hl h
        · exact h
      · intro e he hb
        have := Array.all_eq_true_iff_forall_mem.1 h7 e he
        simp [hb] at this
        exact this
  have hcov : ∀ j, j < ops.size → listed.getD j true = false → ∃ p ∈ plan, p.1 = j := by
    intro j hj hl
    have := List.all_eq_true.1 hall j (List.mem_range.2 hj)
    rw [hl, Bool.false_or] at this
    obtain ⟨p, hp, hb⟩ := List.any_eq_true.1 this
    exact ⟨p, hp, by simpa using hb⟩
  have huniq : ∀ p ∈ plan, ∀ q ∈ plan, p.1 = q.1 → p = q := by
    intro p hp q hq he
    have h1 := List.all_eq_true.1 hcnt p.1 (List.mem_map.2 ⟨p, hp, rfl⟩)
    simp only [beq_iff_eq] at h1
    rw [List.countP_eq_length_filter] at h1
    obtain ⟨x, hx⟩ := List.length_eq_one_iff.1 h1
    have hp' : p ∈ plan.filter (fun r => r.1 == p.1) := List.mem_filter.2 ⟨hp, by simp⟩
    have hq' : q ∈ plan.filter (fun r => r.1 == p.1) := List.mem_filter.2 ⟨hq, by simp [he]⟩
    rw [hx, List.mem_singleton] at hp' hq'
    rw [hp', hq']
  have hQacts : ∀ (σ : Nat → Value) (l : List (Nat × Option Tmp)) (b : Act) c w, Q (.panic c) (acts b σ l) w ↔ Q (.panic c) b w := by
    intro σ l
    induction l with
    | nil => intro b c w; exact Iff.rfl
    | cons p l ih => intro b c w; exact ⟨fun h => (ih b c w).1 (hQ _ _ _ _ _ h), fun h => hQ' _ _ _ _ _ ((ih b c w).2 h)⟩
  have hnd : (plan.map (·.1)).length = plan.length := List.length_map _
  -- the induction
  have main : ∀ (n : Nat) (rem : List (Nat × Option Tmp × List (Nat × Tmp))) (l : List (Nat × Option Tmp)) (listed' : Array Bool) (σ : Nat → Value) (w' : World), rem.length ≤ n → listed'.size = listed.size → Grows w w' →
      (∀ p ∈ plan, (listed'.getD p.1 true = true ∧ (p.1, p.2.1) ∈ l ∧ Φ p.1 (σ p.1) w') ∨ (listed'.getD p.1 true = false ∧ p ∈ rem ∧ (p.1, p.2.1) ∉ l)) → (∀ q ∈ l, ∃ p ∈ plan, q = (p.1, p.2.1)) →
      (∀ j, listed.getD j true = true → listed'.getD j true = true) → (∀ j, listed.getD j false = true → listed'.getD j false = true) → wpAnyG P md ops Q n listed' (acts a σ l) w' := by
    have hdone : ∀ (l : List (Nat × Option Tmp)) (listed' : Array Bool) (σ : Nat → Value) (w' : World), listed'.size = listed.size → Grows w w' →
      (∀ p ∈ plan, (listed'.getD p.1 true = true ∧ (p.1, p.2.1) ∈ l ∧ Φ p.1 (σ p.1) w') ∨ (listed'.getD p.1 true = false ∧ (p.1, p.2.1) ∉ l)) → (∀ q ∈ l, ∃ p ∈ plan, q = (p.1, p.2.1)) →
      (∀ j, listed.getD j true = true → listed'.getD j true = true) → Region.ready md ops listed' = [] → Q .normal (acts a σ l) w' := by
      intro l listed' σ w' hs hg hp hl hmono hr
      have hall' := ready_nil (md := md) (ops := ops) (listed := listed') (fun i o ho hli e he hb => by
        have hli' : listed.getD i true = false := by
          cases hx : listed.getD i true with
          | false => rfl
          | true => rw [hmono i hx] at hli; exact hli
        obtain ⟨p, hpp, rfl⟩ := hcov i (Array.getElem?_eq_some_iff.1 ho).1 hli'
        obtain ⟨-, o', ho', -, -, -, -, h7⟩ := hplan p hpp
        rw [ho] at ho'
        cases ho'
        exact h7 e he hb) hr
      have hin : ∀ p ∈ plan, (p.1, p.2.1) ∈ l ∧ Φ p.1 (σ p.1) w' := by
        intro p hpp
        rcases hp p hpp with h | h
        · exact h.2
        · obtain ⟨-, o, ho, -⟩ := hplan p hpp
          have hlt := (Array.getElem?_eq_some_iff.1 ho).1
          rw [hall' p.1 hlt (by omega)] at h
          exact absurd h.1 (by simp)
      have he := relyEnd_at σ plan a (fun p hpp => (hin p hpp).2) (hend w' hg)
      have hset : acts a σ l = acts a σ (plan.map fun p => (p.1, p.2.1)).reverse := by
        refine acts_set a σ ?_ (fun q => ?_)
        · intro p hp q hq t h1 h2
          simp only [List.mem_reverse, List.mem_map] at hp hq
          obtain ⟨p', hp', rfl⟩ := hp
          obtain ⟨q', hq', rfl⟩ := hq
          obtain ⟨-, o, -, -, h4, -⟩ := hplan q' hq'
          exact h4 t h2 p' hp' h1
        · constructor
          · intro hq
            obtain ⟨p, hpp, rfl⟩ := hl q hq
            simp only [List.mem_reverse, List.mem_map]
            exact ⟨p, hpp, rfl⟩
          · intro hq
            simp only [List.mem_reverse, List.mem_map] at hq
            obtain ⟨p, hpp, rfl⟩ := hq
            exact (hin p hpp).1
      rw [hset]
      exact he
    intro n
    induction n with
    | zero =>
      intro rem l listed' σ w' hrem hs hg hp hl hmono hmono2
      have hr0 : rem = [] := List.length_eq_zero_iff.1 (by omega)
      subst hr0
      have hr : Region.ready md ops listed' = [] := by
        cases hr : Region.ready md ops listed' with
        | nil => rfl
        | cons i r =>
          exfalso
          have hi : i ∈ Region.ready md ops listed' := by rw [hr]; exact List.mem_cons_self ..
          obtain ⟨hun, o, ho, -⟩ := mem_ready.1 hi
          have hun' : listed.getD i true = false := by
            cases hx : listed.getD i true with
            | false => rfl
            | true => rw [hmono i hx] at hun; exact hun
          obtain ⟨p, hpp, rfl⟩ := hcov i (Array.getElem?_eq_some_iff.1 ho).1 hun'
          rcases hp p hpp with h | h
          · rw [h.1] at hun; exact absurd hun (by simp)
          · exact absurd h.2.1 List.not_mem_nil
      exact ⟨hr, hdone l listed' σ w' hs hg (fun p hpp => (hp p hpp).imp id fun h => ⟨h.1, h.2.2⟩) hl hmono hr⟩
    | succ n ih =>
      intro rem l listed' σ w' hrem hs hg hp hl hmono hmono2
      refine ⟨fun hr => hdone l listed' σ w' hs hg (fun p hpp => (hp p hpp).imp id fun h => ⟨h.1, h.2.2⟩) hl hmono hr, fun i hi => ?_⟩
      obtain ⟨hun, o, ho, hready⟩ := mem_ready.1 hi
      have hun' : listed.getD i true = false := by
        cases hx : listed.getD i true with
        | false => rfl
        | true => rw [hmono i hx] at hun; exact hun
      obtain ⟨p, hpp, rfl⟩ := hcov i (Array.getElem?_eq_some_iff.1 ho).1 hun'
      obtain ⟨-, o', ho', h3, h4, h5, h6, h7⟩ := hplan p hpp
      rw [ho] at ho'
      cases ho'
      have hrem' : p ∈ rem ∧ (p.1, p.2.1) ∉ l := by
        rcases hp p hpp with h | h
        · rw [h.1] at hun; exact absurd hun (by simp)
        · exact h.2
      -- operands are there
      have hdep : ∀ q ∈ p.2.2, (q.1, some q.2) ∈ l ∧ Φ q.1 (σ q.1) w' := by
        intro q hq
        obtain ⟨⟨e, he, hb, hon⟩, r, hr, hr1, hr2⟩ := h5 q hq
        have hlq := hready e he hb
        rw [hon] at hlq
        rcases hp r hr with h | h
        · rw [hr1, hr2] at h; exact h.2
        · rw [hr1] at h
          have hx : q.1 < listed'.size := by
            rcases Nat.lt_or_ge q.1 listed'.size with h' | h'
            · exact h'
            · simp [Array.getElem?_eq_none h'] at hlq
          have h0 := h.1
          simp [hx] at hlq h0
          rw [hlq] at h0
          exact absurd h0 (by simp)
      obtain ⟨o2, ho2, hst2⟩ := relySteps_at hsteps p hpp
      rw [ho] at ho2
      cases ho2
      have hs1 := relyStep_at (P := P) (ops := ops) (Q := Q) (i := p.1) (o := o) σ p.2.2 a (fun q hq => (hdep q hq).2) (hst2 w' hg)
      have hdl : Unlike l := by
        intro q hq r hr t h1 h2
        obtain ⟨q', hq', rfl⟩ := hl q hq
        obtain ⟨r', hr', rfl⟩ := hl r hr
        obtain ⟨-, _, -, -, g4, -⟩ := hplan r' hr'
        exact g4 t h2 q' hq' h1
      refine wpOp_frame (a := acts a σ (p.2.2.map fun (q : Nat × Tmp) => ((q.1, some q.2) : Nat × Option Tmp)).reverse) (R := Φ p.1) (w := w') ho (Region.noSelect_spec hsel p.1 o · · ho) (fun t ht => ?_) (by rw [acts_size, acts_size]) (fun c w2 h => ?_) hs1 (fun v w2 hg2 hv => ⟨hg2, ?_⟩) (fun e a' he => no_defer _ e _ a' he)
      · by_cases hx : ∃ j, (j, some t) ∈ l
        · obtain ⟨j, hj⟩ := hx
          obtain ⟨q, hqp, hqe⟩ := hl _ hj
          simp only [Prod.mk.injEq] at hqe
          have hmem := h6 q hqp t hqe.2.symm ht
          rw [acts_in a σ t j l hj (fun r hr he => hdl r hr (j, some t) hj t he rfl)]
          rw [acts_in a σ t j _ (by
            simp only [List.mem_reverse, List.mem_map]
            exact ⟨(q.1, t), hmem, by rw [hqe.1]⟩) (fun r hr he => by
              simp only [List.mem_reverse, List.mem_map] at hr
              obtain ⟨r', hr', rfl⟩ := hr
              have := (hdep r' hr').1
              exact hdl _ this _ hj t (by simpa using he) rfl)]
        · have hout : ∀ q ∈ l, q.2 ≠ some t := fun q hq he => hx ⟨q.1, by rw [← he]; exact hq⟩
          rw [acts_out a σ t l hout, acts_out a σ t _ (fun r hr he => by
            simp only [List.mem_reverse, List.mem_map] at hr
            obtain ⟨r', hr', rfl⟩ := hr
            exact hout _ (hdep r' hr').1 he)]
      · exact (hQacts σ l a c w2).2 ((hQacts σ _ a c w2).1 h)
      · have hi' : p.1 < listed'.size := by
          have := (Array.getElem?_eq_some_iff.1 ho).1
          omega
        have hac : (acts a σ l).put o.dst v = acts a (fun j => if j = p.1 then v else σ j) ((p.1, p.2.1) :: l) := by
          rw [acts, if_pos rfl, h3]
          congr 1
          refine acts_congr a l fun q hq => ?_
          have : q.1 ≠ p.1 := fun e => by
            obtain ⟨q', hq', rfl⟩ := hl q hq
            have := huniq q' hq' p hpp e
            subst this
            exact hrem'.2 hq
          rw [if_neg this]
        rw [hac]
        refine ih (rem.erase p) _ _ _ w2 (by rw [List.length_erase_of_mem hrem'.1]; omega) (by simpa using hs) (hg.trans hg2) (fun q hq => ?_) (fun q hq => ?_) (fun j hj => ?_) (fun j hj => getD_set_true (hmono2 j hj))
        · by_cases hqp : q.1 = p.1
          · have := huniq q hq p hpp hqp
            subst this
            refine .inl ⟨by simp [hi'], List.mem_cons_self .., ?_⟩
            rw [if_pos rfl]
            exact hv
          · rw [getD_set_ne true (Ne.symm hqp), if_neg hqp]
            refine (hp q hq).imp (fun h => ⟨h.1, List.mem_cons_of_mem _ h.2.1, hst _ _ _ _ h.2.2 hg2⟩) (fun h => ⟨h.1, ?_, ?_⟩)
            · exact (List.mem_erase_of_ne (fun e => hqp (by rw [e]))).2 h.2.1
            · intro hm
              rcases List.mem_cons.1 hm with hm | hm
              · exact hqp (Prod.mk.inj hm).1
              · exact h.2.2 hm
        · rcases List.mem_cons.1 hq with rfl | hq
          · exact ⟨p, hpp, rfl⟩
          · exact hl q hq
        · by_cases hjp : j = p.1
          · subst hjp; simp [hi']
          · rw [getD_set_ne true (Ne.symm hjp)]; exact hmono j hj
  have := main n plan [] listed (fun _ => undef) w hn rfl (Grows.refl w) (fun p hp => .inr ⟨(hplan p hp).1, hp, List.not_mem_nil⟩) (fun q hq => absurd hq List.not_mem_nil) (fun _ h => h) (fun _ h => h)
  exact this

/-- A linear walk that ends in such steps. -/
def linTo (md : Region.Mode) (ops : Array Oper) (plan : List (Nat × Option Tmp × List (Nat × Tmp))) : List (Nat × Bool) → Array Bool → Bool
  | [], listed => relyOk md ops listed plan && listed.size == ops.size
  | (k, true) :: fl, listed => (Region.ready md ops listed).contains k && Region.free md ops listed k && linTo md ops plan fl (listed.setIfInBounds k true)
  | (k, false) :: fl, listed => (Region.ready md ops listed == [k]) && linTo md ops plan fl (listed.setIfInBounds k true)
/-- As wpLin; at the end any claim on the frame. -/
def wpLinK (P : Program) (ops : Array Oper) (Q : Exit → Act → World → Prop) (K : Act → World → Prop) : List (Nat × Bool) → Act → World → Prop
  | [], a, w => K a w
  | (i, true) :: rest, a, w => ∃ o, ops[i]? = some o ∧ ∃ v, Steady P ops o v a w ∧ wpLinK P ops Q K rest (a.put o.dst v) w
  | (i, false) :: rest, a, w => ∃ o, ops[i]? = some o ∧ if Region.wanted o (yielded ops a.tmps) = true then o.wp P a w (fun a' w' => Grows w w' ∧ wpLinK P ops Q K rest a' w') Q else wpLinK P ops Q K rest (a.put o.dst undef) w
def relyRest (P : Program) (ops : Array Oper) (Q : Exit → Act → World → Prop) (Φ : Nat → Value → World → Prop) (plan : List (Nat × Option Tmp × List (Nat × Tmp))) (a : Act) (w : World) : Prop :=
  relySteps P ops Q Φ a w plan ∧ ∀ w', Grows w w' → relyEnd Q Φ w' plan a

theorem wpAnyG_linTo {Φ : Nat → Value → World → Prop} {plan : List (Nat × Option Tmp × List (Nat × Tmp))} (hs : Region.noSelect ops = true) (hst : ∀ i v w1 w2, Φ i v w1 → Grows w1 w2 → Φ i v w2)
    (hQ : ∀ (d : Option Tmp) (v : Value), ∀ c a w, Q (.panic c) (a.put d v) w → Q (.panic c) a w) (hQ' : ∀ (d : Option Tmp) (v : Value), ∀ c a w, Q (.panic c) a w → Q (.panic c) (a.put d v) w) :
    ∀ (l : List (Nat × Bool)) (listed : Array Bool) (a : Act) (w : World), linTo md ops plan l listed = true → wpLinK P ops Q (relyRest P ops Q Φ plan) l a w → wpAnyG P md ops Q (l.length + plan.length) listed a w
  | [], _, _, _, hB, h => by
    simp only [linTo, Bool.and_eq_true, beq_iff_eq] at hB
    exact wpAnyG_rely hB.1 hB.2 hst hQ hQ' h.1 h.2 _ (by simp)
  | (k, true) :: l, listed, a, w, hB, h => by
    obtain ⟨o, h0, v, hy, hK⟩ := h
    simp only [linTo, Bool.and_eq_true] at hB
    obtain ⟨⟨hr, hf⟩, hB'⟩ := hB
    rw [List.length_cons, Nat.add_right_comm]
    exact wpAnyG_first h0 (Region.noSelect_spec hs) (hQ o.dst v) (l.length + plan.length) listed a w (Region.free_spec h0 hf) (by simpa using hr) hy
      (wpAnyG_linTo hs hst hQ hQ' l _ _ _ hB' hK)
  | (k, false) :: l, listed, a, w, hB, h => by
    obtain ⟨o, h0, h⟩ := h
    simp only [linTo, Bool.and_eq_true, beq_iff_eq] at hB
    obtain ⟨hr, hB'⟩ := hB
    rw [List.length_cons, Nat.add_right_comm]
    refine ⟨fun hx => by rw [hr] at hx; exact absurd hx (List.cons_ne_nil _ _), fun i hi => ?_⟩
    rw [hr, List.mem_singleton] at hi
    subst hi
    have hrest : ∀ a' w', wpLinK P ops Q (relyRest P ops Q Φ plan) l a' w' → wpAnyG P md ops Q (l.length + plan.length) (listed.setIfInBounds i true) a' w' := fun a' w' hh => wpAnyG_linTo hs hst hQ hQ' l _ _ _ hB' hh
    unfold wpOp
    rw [h0]
    simp only []
    split
    · rename_i hw
      rw [if_pos hw] at h
      exact .inl (Oper.wp_mono (fun a' w' hh => ⟨hh.1, hrest a' w' hh.2⟩) h)
    · rename_i hw
      rw [if_neg hw] at h
      exact ⟨Grows.refl _, hrest _ _ h⟩

/-- The region's theorem: first a walk in an order (fl), then one step for each operation that is left (plan). -/
theorem wp_region_rely {id : Nat} {a : Act} {w : World} {l : List Oper} (fl : List (Nat × Bool)) (plan : List (Nat × Option Tmp × List (Nat × Tmp))) (Φ : Nat → Value → World → Prop) (hm : P.follows .mixedOrders = true)
    (hB : (Region.noSelect l.toArray && (l.length == fl.length + plan.length) && linTo .any l.toArray plan fl (Array.replicate l.length false)) = true)
    (hQ : ∀ (d : Option Tmp) (v : Value), ∀ c a w, Q (.panic c) (a.put d v) w → Q (.panic c) a w) (hQ' : ∀ (d : Option Tmp) (v : Value), ∀ c a w, Q (.panic c) a w → Q (.panic c) (a.put d v) w)
    (hst : ∀ i v w1 w2, Φ i v w1 → Grows w1 w2 → Φ i v w2)
    (h : wpLinK P l.toArray Q (relyRest P l.toArray Q Φ plan) fl a w.drew) : (Code.region id l.toArray true).wp P Q a w := by
  simp only [Bool.and_eq_true, beq_iff_eq] at hB
  obtain ⟨⟨hs, hlen⟩, hB⟩ := hB
  refine wp_region_any hm ?_
  have key := wpAny_of_G _ _ _ _ (wpAnyG_linTo (md := .any) hs hst hQ hQ' fl (Array.replicate l.length false) a w.drew hB h)
  rw [← hlen] at key
  simpa using key

theorem wpLinK_nil {K : Act → World → Prop} {a : Act} {w : World} (h : K a w) : wpLinK P ops Q K [] a w := h
theorem wpLinK_take {KK : Act → World → Prop} {i : Nat} {o : Oper} {rest : List (Nat × Bool)} {a : Act} {w : World} {v : Value} (hi : ops[i]? = some o) (hw : Region.wanted o (yielded ops a.tmps) = true) (hv : ∀ w', Grows w w' → o.quietAt P a (fun x => x = w') w' v)
    (h : ∀ K : Act → Prop, (∀ a, wpLinK P ops Q KK rest a w → K a) → K (a.put o.dst v)) : wpLinK P ops Q KK ((i, true) :: rest) a w :=
  ⟨o, hi, v, .inl ⟨hw, hv⟩, h (fun a => wpLinK P ops Q KK rest a w) (fun _ h => h)⟩
theorem wpLinK_skip {KK : Act → World → Prop} {i : Nat} {o : Oper} {rest : List (Nat × Bool)} {a : Act} {w : World} (hi : ops[i]? = some o) (hw : Region.wanted o (yielded ops a.tmps) = false)
    (h : ∀ K : Act → Prop, (∀ a, wpLinK P ops Q KK rest a w → K a) → K (a.put o.dst undef)) : wpLinK P ops Q KK ((i, true) :: rest) a w :=
  ⟨o, hi, undef, .inr ⟨hw, rfl⟩, h (fun a => wpLinK P ops Q KK rest a w) (fun _ h => h)⟩
theorem wpLinK_do {KK : Act → World → Prop} {i : Nat} {o : Oper} {rest : List (Nat × Bool)} {a : Act} {w : World} (hi : ops[i]? = some o)
    (h : ∀ K : Act → World → Prop, (∀ a w', Grows w w' → wpLinK P ops Q KK rest a w' → K a w') → if Region.wanted o (yielded ops a.tmps) = true then o.wp P a w K Q else K (a.put o.dst undef) w) :
    wpLinK P ops Q KK ((i, false) :: rest) a w := by
  have := h (fun a' w' => Grows w w' ∧ wpLinK P ops Q KK rest a' w') (fun _ _ h1 h2 => ⟨h1, h2⟩)
  refine ⟨o, hi, ?_⟩
  split
  · rename_i hw; rwa [if_pos hw] at this
  · rename_i hw; rw [if_neg hw] at this; exact this.2
theorem relySteps_cons {Φ : Nat → Value → World → Prop} {a : Act} {w : World} {i : Nat} {d : Option Tmp} {deps : List (Nat × Tmp)} {rest : List (Nat × Option Tmp × List (Nat × Tmp))} {o : Oper} (ho : ops[i]? = some o)
    (h : ∀ w', Grows w w' → relyStep P ops Q Φ w' i o deps a) (hr : relySteps P ops Q Φ a w rest) : relySteps P ops Q Φ a w ((i, d, deps) :: rest) := ⟨⟨o, ho, h⟩, hr⟩

theorem relyRest_mk {Φ : Nat → Value → World → Prop} {plan : List (Nat × Option Tmp × List (Nat × Tmp))} {a : Act} {w : World} (h1 : relySteps P ops Q Φ a w plan) (h2 : ∀ w', Grows w w' → relyEnd Q Φ w' plan a) : wpLinK P ops Q (relyRest P ops Q Φ plan) [] a w := ⟨h1, h2⟩
theorem relySteps_nil {Φ : Nat → Value → World → Prop} {a : Act} {w : World} : relySteps P ops Q Φ a w [] := trivial
theorem relyStep_cons {Φ : Nat → Value → World → Prop} {w : World} {i : Nat} {o : Oper} {j : Nat} {d : Tmp} {l : List (Nat × Tmp)} {a : Act} (h : ∀ v, Φ j v w → relyStep P ops Q Φ w i o l (a.put (some d) v)) : relyStep P ops Q Φ w i o ((j, d) :: l) a := h
theorem relyStep_nil {Φ : Nat → Value → World → Prop} {w : World} {i : Nat} {o : Oper} {a : Act}
    (h : ∀ K : Act → World → Prop, (∀ v w', Grows w w' → Φ i v w' → K (a.put o.dst v) w') → if Region.wanted o (yielded ops a.tmps) = true then o.wp P a w K Q else K (a.put o.dst undef) w) : relyStep P ops Q Φ w i o [] a := h
theorem relyEnd_cons {Φ : Nat → Value → World → Prop} {w : World} {i : Nat} {d : Option Tmp} {e : List (Nat × Tmp)} {l : List (Nat × Option Tmp × List (Nat × Tmp))} {a : Act} (h : ∀ v, Φ i v w → relyEnd Q Φ w l (a.put d v)) : relyEnd Q Φ w ((i, d, e) :: l) a := h
theorem relyEnd_nil {Φ : Nat → Value → World → Prop} {w : World} {a : Act} (h : Q .normal a w) : relyEnd Q Φ w [] a := h

/-- What is known of a value, in whatever grown world. -/
structure SP where
  p : Value → World → Prop
  st : ∀ v w1 w2, p v w1 → Grows w1 w2 → p v w2
def SP.val (x : Value) : SP := ⟨fun v _ => v = x, fun _ _ _ h _ => h⟩
def SP.any : SP := ⟨fun _ _ => True, fun _ _ _ h _ => h⟩
theorem SP.val_eq {x v : Value} {w : World} (h : (SP.val x).p v w) : v = x := h
theorem SP.val_mk (x : Value) (w : World) : (SP.val x).p x w := rfl
/-- The region's theorem with such words. -/
theorem wp_region_relyF {id : Nat} {a : Act} {w : World} {l : List Oper} (fl : List (Nat × Bool)) (plan : List (Nat × Option Tmp × List (Nat × Tmp))) (F : Nat → SP) (hm : P.follows .mixedOrders = true)
    (hB : (Region.noSelect l.toArray && (l.length == fl.length + plan.length) && linTo .any l.toArray plan fl (Array.replicate l.length false)) = true)
    (hQ : ∀ (d : Option Tmp) (v : Value), ∀ c a w, Q (.panic c) (a.put d v) w → Q (.panic c) a w) (hQ' : ∀ (d : Option Tmp) (v : Value), ∀ c a w, Q (.panic c) a w → Q (.panic c) (a.put d v) w)
    (h : wpLinK P l.toArray Q (relyRest P l.toArray Q (fun i => (F i).p) plan) fl a w.drew) : (Code.region id l.toArray true).wp P Q a w :=
  wp_region_rely fl plan (fun i => (F i).p) hm hB hQ hQ' (fun i => (F i).st) h
end
end Go.Proofs.Ytpcfelccanmggaa
