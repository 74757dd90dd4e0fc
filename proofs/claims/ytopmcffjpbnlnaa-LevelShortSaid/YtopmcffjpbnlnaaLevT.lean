/- Chapter 10: how many bytes levels need: plain law. -/
import Derived.Test.YtopmcffjpbnlnaaLevE
namespace Go.Proofs.Ytopmcffjpbnlnaa
open Go.RowKit
set_option linter.unusedVariables false

theorem vlen1 (v : Nat) (h : v < 128) : (vputB v).length = 1 := by rw [vputB_small v h]; rfl
theorem vlen2 (v : Nat) (h2 : v < 16384) : (vputB v).length ≤ 2 := by
  by_cases h : v < 128
  · rw [vlen1 v h]; decide
  · rw [vputB_step v (by omega) (by omega), vputB_small (v / 128) (by omega)]; simp
theorem pk_len (g : List Nat) (G w : Nat) (h : g.length = 8 * G) : (packed g w).length = G * w := by
  rw [packed_length, h]; unfold packSize; rw [Nat.mul_assoc]; omega
theorem levB_short (w : Nat) (h1 : 1 ≤ w) (h16 : w ≤ 16) (m : Nat) : ∀ l : List Nat, l.length ≤ m → l.length ≤ 1000 → (levB w l).length ≤ (l.length + 7) / 8 * w + 4 * l.length := by
  induction m with
  | zero => intro l hm _; rw [List.length_eq_zero_iff.1 (Nat.le_zero.1 hm)]; simp [levB_nil]
  | succ m ih =>
    intro l hm hl
    by_cases h0 : l = []
    · subst h0; simp [levB_nil]
    have hpos : 0 < l.length := List.length_pos_iff.2 h0
    cases hr : isRun l with
    | true =>
      have hs := sameN_pos l h0
      have hs2 := sameN_le l
      have h2 := ih (l.drop (sameN l)) (by rw [List.length_drop]; omega) (by rw [List.length_drop]; omega)
      have h3 := vlen2 (2 * sameN l) (by omega)
      rw [levB_run w l h0 hr]
      simp only [List.length_append, lowB_length]
      rw [List.length_drop] at h2
      have h4 : (l.length - sameN l + 7) / 8 * w ≤ (l.length + 7) / 8 * w := Nat.mul_le_mul_right _ (by omega)
      omega
    | false =>
      obtain ⟨G, g1, g2, g3, g4, g5⟩ := grps_is l.length l (Nat.le_refl _) h0
      have h2 := ih (grps l).2 (by have := grps_shorter l h0; omega) (by have := grps_shorter l h0; omega)
      have h3 := vlen2 (2 * ((grps l).1.length / 8) + 1) (by omega)
      have hp := pk_len (grps l).1 G w g1
      rw [levB_grp w l h0 hr]
      simp only [List.length_append]
      rw [hp]
      rw [g4, List.length_drop] at h2
      rw [g4]
      have h4 : (G + (l.length - 8 * G + 7) / 8) * w ≤ (l.length + 7) / 8 * w := Nat.mul_le_mul_right _ (by omega)
      rw [Nat.add_mul] at h4
      omega

/-! One run more. -/
theorem getD_rep (n v i : Nat) (h : i < n) : (List.replicate n v).getD i 0 = v := by
  rw [List.getD_eq_getElem?_getD, List.getElem?_replicate, if_pos h]; rfl
theorem getD_appL (l r : List Nat) (i : Nat) (h : i < l.length) : (l ++ r).getD i 0 = l.getD i 0 := by
  simp only [List.getD_eq_getElem?_getD]; rw [List.getElem?_append_left h]
theorem getD_appR (l r : List Nat) (i : Nat) (h : l.length ≤ i) : (l ++ r).getD i 0 = r.getD (i - l.length) 0 := by
  simp only [List.getD_eq_getElem?_getD]; rw [List.getElem?_append_right h]
theorem sameN_next (l : List Nat) (h : sameN l < l.length) : l.getD (sameN l) 0 ≠ l.getD 0 0 := by
  cases l with
  | nil => simp at h
  | cons x t =>
    have key : ∀ t : List Nat, (t.takeWhile (· == x)).length < t.length → t.getD (t.takeWhile (· == x)).length 0 ≠ x := by
      intro t
      induction t with
      | nil => intro h; simp at h
      | cons y t ih =>
        by_cases hy : (y == x) = true
        · rw [List.takeWhile_cons, if_pos hy]
          intro h
          simp only [List.length_cons] at h ⊢
          have := ih (by omega)
          simpa using this
        · rw [List.takeWhile_cons, if_neg hy]
          intro _
          rw [beq_iff_eq] at hy
          simpa using hy
    have hk := key t (by simp only [sameN, List.length_cons] at h; omega)
    simp only [sameN]
    rw [Nat.add_comm]
    simpa using hk
theorem sameN_same (l : List Nat) (i : Nat) (h : i < sameN l) : l.getD i 0 = l.getD 0 0 := by
  have ht := take_sameN l
  have h2 : (l.take (sameN l)).getD i 0 = l.getD i 0 := by
    simp only [List.getD_eq_getElem?_getD]; rw [List.getElem?_take_of_lt h]
  rw [← h2, ht, getD_rep _ _ _ h]
theorem sameN_app (l r : List Nat) (h0 : l ≠ []) (h : sameN l < l.length ∨ (r ≠ [] ∧ r.getD 0 0 ≠ l.getD 0 0)) : sameN (l ++ r) = sameN l := by
  have hs := sameN_pos l h0
  have hle := sameN_le l
  have hpos : 0 < l.length := List.length_pos_iff.2 h0
  have e0 : (l ++ r).getD 0 0 = l.getD 0 0 := getD_appL l r 0 hpos
  refine sameN_of _ _ hs (by rw [List.length_append]; omega) (fun i hi => ?_) ?_
  · rw [e0, getD_appL l r i (by omega)]; exact sameN_same l i hi
  · right
    rw [e0]
    rcases Nat.lt_or_ge (sameN l) l.length with hlt | hge
    · rw [getD_appL l r _ hlt]; exact sameN_next l hlt
    · have he : sameN l = l.length := by omega
      rcases h with h | ⟨h1, h2⟩
      · omega
      · rw [getD_appR l r _ hge, he, Nat.sub_self]; exact h2
theorem isRun_app (l r : List Nat) (h0 : l ≠ []) (hr0 : r ≠ []) (h : sameN l < l.length ∨ r.getD 0 0 ≠ l.getD 0 0) : isRun (l ++ r) = decide (8 ≤ sameN l) := by
  have hs := sameN_app l r h0 (h.imp id fun h => ⟨hr0, h⟩)
  have hle := sameN_le l
  have hpos : 0 < r.length := List.length_pos_iff.2 hr0
  unfold isRun
  rw [hs, List.length_append]
  congr 1
  rw [eq_iff_iff]
  constructor
  · rintro (h | h)
    · exact h
    · omega
  · exact .inl
theorem isRun_rep (k v : Nat) : isRun (List.replicate k v) = true := by
  unfold isRun
  by_cases h : k = 0
  · subst h; rfl
  · have hs : sameN (List.replicate k v) = k := sameN_of _ k (by omega) (by simp) (fun i hi => by rw [getD_rep _ _ _ hi, getD_rep _ _ _ (by omega)]) (.inl (by simp))
    rw [hs]; simp
theorem rep_of_same (l : List Nat) (h : sameN l = l.length) : l = List.replicate l.length (l.getD 0 0) := by
  have ht := take_sameN l
  rw [h, List.take_of_length_le (Nat.le_refl _)] at ht
  exact ht
theorem levB_rep_le (w k v : Nat) (h16 : w ≤ 16) (hk : k ≤ 1000) : (levB w (List.replicate k v)).length ≤ 4 := by
  by_cases h : k = 0
  · subst h; simp [levB_nil]
  · have hne : List.replicate k v ≠ [] := by intro e; have := congrArg List.length e; simp at this; omega
    have hs : sameN (List.replicate k v) = k := sameN_of _ k (by omega) (by simp) (fun i hi => by rw [getD_rep _ _ _ hi, getD_rep _ _ _ (by omega)]) (.inl (by simp))
    rw [levB_run w _ hne (isRun_rep k v), hs, List.drop_of_length_le (by simp), levB_nil]
    simp only [List.length_append, lowB_length, List.length_nil]
    have := vlen2 (2 * k) (by omega)
    omega
theorem drop_app8 (l : List Nat) (n v : Nat) (h : l.length ≤ 8) : (l ++ List.replicate n v).drop 8 = List.replicate (n - (8 - l.length)) v := by
  rw [List.drop_append, List.drop_of_length_le h, List.nil_append, List.drop_replicate]
/-- Groups of a short row with a run behind. -/
theorem grps_shortrun (l : List Nat) (n v : Nat) (h : l.length ≤ 8) : grps (l ++ List.replicate n v) = (pad8 (l ++ List.replicate n v), List.replicate (n - (8 - l.length)) v) := by
  rw [← drop_app8 l n v h]
  refine grps_last _ (.inr ?_)
  rw [drop_app8 l n v h]; exact isRun_rep _ _
/-- What groups become where a run of eight or more is laid behind. -/
theorem grps_ext (n v : Nat) (hn : 8 ≤ n) (m : Nat) : ∀ l : List Nat, l.length ≤ m → l ≠ [] →
    ((grps (l ++ List.replicate n v)).1.length = (grps l).1.length ∧ (grps (l ++ List.replicate n v)).2 = (grps l).2 ++ List.replicate n v) ∨
    ((grps (l ++ List.replicate n v)).1.length ≤ (grps l).1.length + 8 ∧ ∃ k, k ≤ n ∧ (grps (l ++ List.replicate n v)).2 = List.replicate k v) := by
  induction m with
  | zero => intro l hm h0; exact absurd (List.length_eq_zero_iff.1 (Nat.le_zero.1 hm)) h0
  | succ m ih =>
    intro l hm h0
    have hr0 : List.replicate n v ≠ [] := by intro e; have := congrArg List.length e; simp at this; omega
    have hrv : (List.replicate n v).getD 0 0 = v := getD_rep n v 0 (by omega)
    rcases Nat.lt_trichotomy l.length 8 with h8 | h8 | h8
    · rw [grps_shortrun l n v (by omega), grps_last l (.inl (List.drop_of_length_le (by omega)))]
      exact .inr ⟨by rw [pad8_length, pad8_length]; omega, _, by omega, rfl⟩
    · rw [grps_shortrun l n v (by omega), grps_last l (.inl (List.drop_of_length_le (by omega)))]
      refine .inl ⟨by rw [pad8_length, pad8_length], ?_⟩
      rw [List.drop_of_length_le (by omega), List.nil_append, h8]; rfl
    · have hd : (l ++ List.replicate n v).drop 8 = l.drop 8 ++ List.replicate n v := by rw [List.drop_append_of_le_length (by omega)]
      have hne : l.drop 8 ≠ [] := by intro e; have := congrArg List.length e; rw [List.length_drop] at this; simp at this; omega
      obtain ⟨l8, hl8⟩ : ∃ x, x = l.drop 8 := ⟨_, rfl⟩
      have hl8n : l8.length ≤ m := by rw [hl8, List.length_drop]; omega
      rw [← hl8] at hd hne
      have hle := sameN_le l8
      cases hrun : isRun l8 with
      | true =>
        have hgl := grps_last l (.inr (by rw [← hl8]; exact hrun))
        by_cases hrun2 : isRun (l8 ++ List.replicate n v) = true
        · have hgr := grps_last (l ++ List.replicate n v) (.inr (by rw [hd]; exact hrun2))
          rw [hgl, hgr, hd, ← hl8]
          exact .inl ⟨by rw [pad8_length, pad8_length], rfl⟩
        · have hs : sameN l8 = l8.length ∧ sameN l8 < 8 := by
            have hx : isRun l8 = true := hrun
            unfold isRun at hx
            rw [decide_eq_true_iff] at hx
            by_cases hlt : sameN l8 < l8.length
            · have := isRun_app l8 (List.replicate n v) hne hr0 (.inl hlt)
              rw [this, decide_eq_true_iff] at hrun2
              omega
            · have he : sameN l8 = l8.length := by omega
              by_cases hv : v = l8.getD 0 0
              · have hl := rep_of_same l8 he
                rw [hl, ← hv, List.replicate_append_replicate, isRun_rep] at hrun2
                exact absurd rfl hrun2
              · have := isRun_app l8 (List.replicate n v) hne hr0 (.inr (by rw [hrv]; exact hv))
                rw [this, decide_eq_true_iff] at hrun2
                omega
          have hgm := grps_more (l ++ List.replicate n v) (by
            rw [hd]
            rintro (h | h)
            · exact absurd (List.append_eq_nil_iff.1 h).1 hne
            · exact hrun2 h)
          rw [hgl, hgm, hd, grps_shortrun l8 n v (by omega)]
          exact .inr ⟨by rw [List.length_append, pad8_length, pad8_length, pad8_length]; omega, _, by omega, rfl⟩
      | false =>
        have hx : isRun l8 = false := hrun
        unfold isRun at hx
        rw [decide_eq_false_iff_not] at hx
        have hrun2 : isRun (l8 ++ List.replicate n v) = false := by
          rw [isRun_app l8 _ hne hr0 (.inl (by omega))]
          exact decide_eq_false (by omega)
        have hgl := grps_more l (by rw [← hl8]; rintro (h | h); exact hne h; rw [hrun] at h; cases h)
        have hgr := grps_more (l ++ List.replicate n v) (by
          rw [hd]
          rintro (h | h)
          · exact absurd (List.append_eq_nil_iff.1 h).1 hne
          · rw [hrun2] at h; cases h)
        rw [hgl, hgr, hd, ← hl8]
        rcases ih l8 hl8n hne with ⟨h1, h2⟩ | ⟨h1, k, h2, h3⟩
        · exact .inl ⟨by simp only [List.length_append, pad8_length]; omega, h2⟩
        · exact .inr ⟨by simp only [List.length_append, pad8_length]; omega, k, h2, h3⟩

theorem levB_ext (w n v : Nat) (h1 : 1 ≤ w) (h16 : w ≤ 16) (hn : 8 ≤ n) (hn2 : n ≤ 200) (m : Nat) : ∀ l : List Nat, l.length ≤ m → l.length ≤ 300 → (levB w (l ++ List.replicate n v)).length ≤ (levB w l).length + w + 8 := by
  induction m with
  | zero =>
    intro l hm _
    rw [List.length_eq_zero_iff.1 (Nat.le_zero.1 hm), List.nil_append]
    have := levB_rep_le w n v h16 (by omega)
    omega
  | succ m ih =>
    intro l hm hl
    by_cases h0 : l = []
    · subst h0
      rw [List.nil_append]
      have := levB_rep_le w n v h16 (by omega)
      omega
    have hpos : 0 < l.length := List.length_pos_iff.2 h0
    have hr0 : List.replicate n v ≠ [] := by intro e; have := congrArg List.length e; simp at this; omega
    have hrv : (List.replicate n v).getD 0 0 = v := getD_rep n v 0 (by omega)
    have hne : l ++ List.replicate n v ≠ [] := fun e => h0 (List.append_eq_nil_iff.1 e).1
    have hle := sameN_le l
    have hs := sameN_pos l h0
    have e0 : (l ++ List.replicate n v).getD 0 0 = l.getD 0 0 := getD_appL l _ 0 hpos
    have runs : 8 ≤ sameN l → (sameN l < l.length ∨ (List.replicate n v).getD 0 0 ≠ l.getD 0 0) → (levB w (l ++ List.replicate n v)).length ≤ (levB w l).length + w + 8 := fun h8 hx => by
      have hrun2 : isRun (l ++ List.replicate n v) = true := by rw [isRun_app l _ h0 hr0 hx]; exact decide_eq_true h8
      have hsa := sameN_app l (List.replicate n v) h0 (hx.imp id fun h => ⟨hr0, h⟩)
      have hrun : isRun l = true := by unfold isRun; exact decide_eq_true (.inl h8)
      rw [levB_run w _ hne hrun2, levB_run w l h0 hrun, hsa, e0, List.drop_append_of_le_length hle]
      simp only [List.length_append]
      have := ih (l.drop (sameN l)) (by rw [List.length_drop]; omega) (by rw [List.length_drop]; omega)
      omega
    have groups : isRun l = false → isRun (l ++ List.replicate n v) = false → (levB w (l ++ List.replicate n v)).length ≤ (levB w l).length + w + 8 := fun hr hr2 => by
      obtain ⟨G, g1, g2, g3, g4, g5⟩ := grps_is l.length l (Nat.le_refl _) h0
      obtain ⟨G', g1', g2', g3', g4', g5'⟩ := grps_is (l ++ List.replicate n v).length (l ++ List.replicate n v) (Nat.le_refl _) hne
      have hG' : 8 * (G' - 1) < 500 := by rw [List.length_append, List.length_replicate] at g3'; omega
      rw [levB_grp w _ hne hr2, levB_grp w l h0 hr]
      simp only [List.length_append]
      rw [pk_len _ G w g1, pk_len _ G' w g1', g1, g1', vlen1 (2 * (8 * G / 8) + 1) (by omega), vlen1 (2 * (8 * G' / 8) + 1) (by omega)]
      rcases grps_ext n v hn l.length l (Nat.le_refl _) h0 with ⟨h1, h2⟩ | ⟨h1, k, h2, h3⟩
      · rw [g1, g1'] at h1
        have hGG : G' = G := by omega
        rw [h2, hGG]
        have := ih (grps l).2 (by have := grps_shorter l h0; omega) (by have := grps_shorter l h0; omega)
        omega
      · rw [g1, g1'] at h1
        rw [h3]
        have hk := levB_rep_le w k v h16 (by omega)
        have hGw : G' * w ≤ (G + 1) * w := Nat.mul_le_mul_right _ (by omega)
        rw [Nat.add_mul] at hGw
        omega
    by_cases hlt : sameN l < l.length
    · by_cases h8 : 8 ≤ sameN l
      · exact runs h8 (.inl hlt)
      · exact groups (by unfold isRun; exact decide_eq_false (by omega)) (by rw [isRun_app l _ h0 hr0 (.inl hlt)]; exact decide_eq_false h8)
    · have he : sameN l = l.length := by omega
      by_cases hv : v = l.getD 0 0
      · have hl2 := rep_of_same l he
        rw [hl2, ← hv, List.replicate_append_replicate]
        have := levB_rep_le w (l.length + n) v h16 (by omega)
        omega
      · by_cases h8 : 8 ≤ sameN l
        · exact runs h8 (.inr (by rw [hrv]; exact hv))
        · have hr2 : isRun (l ++ List.replicate n v) = false := by rw [isRun_app l _ h0 hr0 (.inr (by rw [hrv]; exact hv))]; exact decide_eq_false h8
          rw [levB_grp w _ hne hr2, grps_shortrun l n v (by omega)]
          simp only [List.length_append]
          rw [pk_len (pad8 (l ++ List.replicate n v)) 1 w (pad8_length _), pad8_length, vlen1 _ (by decide)]
          have := levB_rep_le w (n - (8 - l.length)) v h16 (by omega)
          omega
end Go.Proofs.Ytopmcffjpbnlnaa
