/- Chapter 12: how long blocks are: plain mathematics. -/
import Derived.Test.YtlnlcmdbhkpnhaaDelP
namespace Go.Proofs.Ytlnlcmdbhkpnhaa
set_option linter.unusedVariables false

theorem foldl_min_ge (b : Int) (l : List Int) : ∀ a : Int, b ≤ a → (∀ x ∈ l, b ≤ x) → b ≤ l.foldl min a := by
  induction l with
  | nil => intro a h _; exact h
  | cons y t ih =>
    intro a h hl
    simp only [List.foldl_cons]
    exact ih _ (by have := hl y (List.mem_cons_self ..); omega) (fun x hx => hl x (List.mem_cons_of_mem _ hx))
theorem minI_ge (b : Int) (c : List Int) (h0 : 0 < c.length) (h : ∀ x ∈ c, b ≤ x) : b ≤ minI c := by
  unfold minI minTo
  rw [List.take_of_length_le (Nat.le_refl _)]
  refine foldl_min_ge b c _ ?_ h
  rw [List.getD_eq_getElem?_getD, List.getElem?_eq_getElem h0]
  exact h _ (List.getElem_mem _)
/-- The least is what stands in the row and is below all of it. -/
theorem minI_eq (m : Int) (c : List Int) (hm : m ∈ c) (h : ∀ x ∈ c, m ≤ x) : minI c = m := by
  have h1 := minI_le c m hm
  have h2 := minI_ge m c (List.length_pos_of_mem hm) h
  omega
theorem foldl_max_le (l : List Nat) : ∀ a : Nat, a ≤ l.foldl max a ∧ ∀ x ∈ l, x ≤ l.foldl max a := by
  induction l with
  | nil => intro a; simp
  | cons y t ih =>
    intro a
    obtain ⟨h1, h2⟩ := ih (max a y)
    simp only [List.foldl_cons]
    refine ⟨by omega, fun x hx => ?_⟩
    rcases List.mem_cons.1 hx with h | h
    · subst h; omega
    · exact h2 x h
theorem maxTo_eq (m : Int) (c : List Int) (B : Nat) (h1 : ∀ x ∈ c, overN m x ≤ B) (h2 : B = 0 ∨ ∃ x ∈ c, overN m x = B) : maxTo m c c.length = B := by
  unfold maxTo
  rw [List.take_of_length_le (Nat.le_refl _)]
  have h3 := foldl_max_lt (B + 1) (c.map (overN m)) 0 (by omega) (fun x hx => by obtain ⟨d, hd, rfl⟩ := List.mem_map.1 hx; have := h1 d hd; omega)
  rcases h2 with h2 | ⟨x, hx, h2⟩
  · omega
  · have h4 := (foldl_max_le (c.map (overN m)) 0).2 (overN m x) (List.mem_map_of_mem hx)
    omega
theorem overN_sub (m d : Int) (h : 0 ≤ d - m) (h2 : d - m < 18446744073709551616) : overN m d = (d - m).toNat := by unfold overN; omega
theorem vput_small (v : Nat) (h : v < 128) : vputB v = [v] := by unfold vputB vputF; rw [if_pos h]
/-- A block's length, where its least and greatest are known. -/
theorem blockB_len (c : List Int) (m : Int) (B : Nat) (hm : minI c = m) (hB : maxTo m c c.length = B) : (blockB c).length = (vputB (zigN m)).length + 1 + (c.length * bitLen B + 7) / 8 := by
  unfold blockB blockW
  rw [hm, hB]
  simp only [List.length_append, packed_length, packSize, List.length_singleton, overs, List.length_map]
theorem blockB_zeros (c : List Int) (h : ∀ x ∈ c, x = 0) : (blockB c).length = 2 := by
  have hm : minI c = 0 := by
    by_cases hc : c = []
    · subst hc; rfl
    · obtain ⟨x, hx⟩ := List.exists_mem_of_ne_nil c hc
      have := h x hx
      subst this
      exact minI_eq 0 c hx (fun y hy => by rw [h y hy]; exact Int.le_refl _)
  have hB : maxTo 0 c c.length = 0 := maxTo_eq 0 c 0 (fun x hx => by rw [h x hx]; decide) (.inl rfl)
  rw [blockB_len c 0 0 hm hB]
  have h1 : (vputB (zigN 0)).length = 1 := by rw [show zigN 0 = 0 from rfl, vput_small 0 (by decide)]; rfl
  rw [h1, bitLen_zero]
  omega
theorem blocksB_len (d : List Int) (f : Nat → Nat) (k : Nat) (h : ∀ j, j < k → (blockB (chunk d j)).length = f j) : (blocksB (chunks d k)).length = ((List.range k).map f).sum := by
  induction k with
  | zero => rfl
  | succ k ih =>
    rw [chunks_succ, blocksB_snoc, List.length_append, ih (fun j hj => h j (by omega)), h k (by omega), List.range_succ, List.map_append, List.sum_append]
    simp
theorem sum_two (k : Nat) : ((List.range k).map (fun _ => 2)).sum = 2 * k := by
  induction k with
  | zero => rfl
  | succ k ih => rw [List.range_succ, List.map_append, List.sum_append, ih]; simp; omega
theorem sum_bump (k jb e : Nat) (h : jb < k) : ((List.range k).map (fun j => if j = jb then 2 + e else 2)).sum = 2 * k + e := by
  induction k with
  | zero => omega
  | succ k ih =>
    rw [List.range_succ, List.map_append, List.sum_append]
    by_cases hk : jb = k
    · subst hk
      have : (List.range jb).map (fun j => if j = jb then 2 + e else 2) = (List.range jb).map (fun _ => 2) := List.map_congr_left (fun j hj => by rw [if_neg (by have := List.mem_range.1 hj; omega)])
      rw [this, sum_two]; simp; omega
    · rw [ih (by omega)]
      simp only [List.map_cons, List.map_nil, List.sum_cons, List.sum_nil]
      rw [if_neg (fun e => hk e.symm)]; omega
/-- Zeros, then a number: the row. -/
def stepRow (n at_ : Nat) (by_ : Int) : List Int := (List.range n).map (fun i => if i < at_ then 0 else by_)
theorem stepRow_length (n at_ : Nat) (by_ : Int) : (stepRow n at_ by_).length = n := by simp [stepRow]
theorem stepRow_getD (n at_ : Nat) (by_ : Int) (i : Nat) (h : i < n) : (stepRow n at_ by_).getD i 0 = if i < at_ then 0 else by_ := by
  simp [stepRow, List.getD_eq_getElem?_getD, h]
theorem stepRow_diffs (n at_ : Nat) (by_ : Int) (hb : inI64 by_) (h1 : 1 ≤ at_) (i : Nat) (h : i + 1 < n) : (diffs (stepRow n at_ by_)).getD i 0 = if i + 1 = at_ then by_ else 0 := by
  rw [diffs_at _ _ (by rw [stepRow_length]; exact h), stepRow_getD _ _ _ _ h, stepRow_getD _ _ _ _ (by omega)]
  by_cases e : i + 1 = at_
  · rw [if_pos e, if_neg (by omega), if_pos (by omega), w64_id _ (by simpa using hb)]; omega
  · rw [if_neg e]
    by_cases e2 : i + 1 < at_
    · rw [if_pos e2, if_pos (by omega)]; rfl
    · rw [if_neg e2, if_neg (by omega), Int.sub_self]; rfl
theorem chunk_length' (d : List Int) (k : Nat) : (chunk d k).length = min 32 (d.length - 32 * k) := by simp [chunk]
theorem chunk_getD' (d : List Int) (k i : Nat) (hi : i < 32) : (chunk d k).getD i 0 = d.getD (32 * k + i) 0 := by
  simp only [chunk, List.getD_eq_getElem?_getD]
  rw [List.getElem?_take_of_lt hi, List.getElem?_drop]
theorem mem_getD (c : List Int) (x : Int) (h : x ∈ c) : ∃ i, i < c.length ∧ c.getD i 0 = x := by
  obtain ⟨i, hi, e⟩ := List.mem_iff_getElem.1 h
  exact ⟨i, hi, by rw [List.getD_eq_getElem?_getD, List.getElem?_eq_getElem hi]; exact e⟩
theorem getD_mem (c : List Int) (i : Nat) (h : i < c.length) : c.getD i 0 ∈ c := by
  rw [List.getD_eq_getElem?_getD, List.getElem?_eq_getElem h]; exact List.getElem_mem _
theorem dIntsB_len (l : List Int) (f : Nat → Nat) (h0 : 0 < l.length) (hz : l.getD 0 0 = 0) (h : ∀ j, 32 * j < l.length - 1 → (blockB (chunk (diffs l) j)).length = f j) :
    (dIntsB l).length = 1 + ((List.range ((l.length - 1 + 31) / 32)).map f).sum := by
  unfold dIntsB
  rw [if_neg (fun e => by rw [e] at h0; simp at h0), hz, List.length_append, show (vputB (zigN 0)).length = 1 by rw [show zigN 0 = 0 from rfl, vput_small 0 (by decide)]; rfl]
  congr 1
  unfold nBlocks
  rw [diffs_length]
  exact blocksB_len _ _ _ (fun j hj => h j (by omega))
theorem dInts_zeros (n : Nat) (h : 1 ≤ n) : (dIntsB (List.replicate n 0)).length = 1 + 2 * ((n - 1 + 31) / 32) := by
  rw [dIntsB_len (List.replicate n 0) (fun _ => 2) (by rw [List.length_replicate]; omega) (by simp [List.getD_eq_getElem?_getD, List.getElem?_replicate]; split <;> rfl), List.length_replicate, sum_two]
  intro j hj
  refine blockB_zeros _ (fun x hx => ?_)
  obtain ⟨i, hi, rfl⟩ := mem_getD _ _ hx
  rw [chunk_length', diffs_length, List.length_replicate] at hi
  rw [chunk_getD' _ _ _ (by omega), diffs_at _ _ (by rw [List.length_replicate]; omega)]
  simp [List.getD_eq_getElem?_getD, List.getElem?_replicate]
  rw [if_pos (by omega), if_pos (by omega)]; rfl
/-- The law's sentence. -/
theorem dInts_step (n at_ s : Nat) (hn : 2 ≤ n) (h1 : 1 ≤ at_) (h2 : at_ < n) (hs : s < 40) (hb : 2 ≤ min 32 (n - 1 - (at_ - 1) / 32 * 32)) :
    (dIntsB (stepRow n at_ ((2 ^ s : Nat) : Int))).length = (dIntsB (List.replicate n 0)).length + (min 32 (n - 1 - (at_ - 1) / 32 * 32) * (s + 1) + 7) / 8 := by
  obtain ⟨p, hp⟩ : ∃ p, p = 2 ^ s := ⟨_, rfl⟩
  have hp0 : 0 < p := by rw [hp]; exact Nat.two_pow_pos s
  have hpm : p ≤ 549755813888 := by
    rw [hp]; exact Nat.le_trans (Nat.pow_le_pow_right (by decide) (show s ≤ 39 by omega)) (by decide)
  have hbl : bitLen p = s + 1 := by rw [hp]; exact bitLen_pow s
  rw [← hp]
  obtain ⟨jb, hjb⟩ : ∃ jb, jb = (at_ - 1) / 32 := ⟨_, rfl⟩
  rw [← hjb] at hb ⊢
  have hin : inI64 (p : Int) := ⟨by omega, by omega⟩
  rw [dInts_zeros n (by omega), dIntsB_len (stepRow n at_ (p : Int)) (fun j => if j = jb then 2 + (min 32 (n - 1 - jb * 32) * (s + 1) + 7) / 8 else 2) (by rw [stepRow_length]; omega) (by rw [stepRow_getD _ _ _ _ (by omega), if_pos (by omega)]), stepRow_length, sum_bump _ _ _ (by omega)]
  · omega
  · intro j hj
    rw [stepRow_length] at hj
    have hcl : (chunk (diffs (stepRow n at_ (p : Int))) j).length = min 32 (n - 1 - 32 * j) := by rw [chunk_length', diffs_length, stepRow_length]
    have hcg : ∀ i, i < min 32 (n - 1 - 32 * j) → (chunk (diffs (stepRow n at_ (p : Int))) j).getD i 0 = if 32 * j + i + 1 = at_ then (p : Int) else 0 := fun i hi => by
      rw [chunk_getD' _ _ _ (by omega), stepRow_diffs _ _ _ hin h1 _ (by omega)]
    obtain ⟨c, hc⟩ : ∃ c, c = chunk (diffs (stepRow n at_ (p : Int))) j := ⟨_, rfl⟩
    rw [← hc] at hcl hcg ⊢
    by_cases hj2 : j = jb
    · rw [if_pos hj2]
      have hval : ∀ x ∈ c, x = 0 ∨ x = (p : Int) := fun x hx => by
        obtain ⟨i, hi, rfl⟩ := mem_getD _ _ hx
        rw [hcg i (by omega)]; split <;> simp
      -- one of them is p, another is 0
      have hip := hcg (at_ - 1 - 32 * j) (by omega)
      rw [if_pos (by omega)] at hip
      have hmp : (p : Int) ∈ c := by rw [← hip]; exact getD_mem _ _ (by omega)
      obtain ⟨i0, hi0, hi0b⟩ : ∃ i, i < min 32 (n - 1 - 32 * j) ∧ 32 * j + i + 1 ≠ at_ := by
        by_cases e : 32 * j + 0 + 1 = at_
        · exact ⟨1, by omega, by omega⟩
        · exact ⟨0, by omega, e⟩
      have hi00 := hcg i0 hi0
      rw [if_neg hi0b] at hi00
      have hm0 : (0 : Int) ∈ c := by rw [← hi00]; exact getD_mem _ _ (by omega)
      have hmin : minI c = 0 := minI_eq 0 c hm0 (fun x hx => by rcases hval x hx with h | h <;> omega)
      have hmax : maxTo 0 c c.length = p := maxTo_eq 0 c p (fun x hx => by
        rcases hval x hx with h | h
        · rw [h]; exact Nat.zero_le _
        · rw [h, overN_sub _ _ (by omega) (by omega)]; omega) (.inr ⟨_, hmp, by rw [overN_sub _ _ (by omega) (by omega)]; omega⟩)
      rw [blockB_len c 0 p hmin hmax, hbl, hcl, show (vputB (zigN 0)).length = 1 by rw [show zigN 0 = 0 from rfl, vput_small 0 (by decide)]; rfl, hj2, Nat.mul_comm 32 jb]
    · rw [if_neg hj2]
      refine blockB_zeros _ (fun x hx => ?_)
      obtain ⟨i, hi, rfl⟩ := mem_getD _ _ hx
      rw [hcg i (by omega), if_neg (by omega)]
end Go.Proofs.Ytlnlcmdbhkpnhaa
