/- What a record is in memory: a tree of a schema's field. -/
import Derived.Test.YtebmbkbnngeabaaGreatPgO
set_option linter.unusedSimpArgs false
namespace Go.Proofs.YtebmbkbnngeabaaGreat
open Go.RowKit
set_option linter.unusedVariables false
abbrev Tr := Int × ByteArray × Value
def tr0 : Tr := (0, ⟨#[]⟩, .slice none 0 0)
def trV (t : Tr) : List Value := [.int .i64 t.1, .string t.2.1, t.2.2]
theorem trV_length (t : Tr) : (trV t).length = 3 := rfl
def LeafFit (kind : Nat) (t : Tr) : Prop := t.2.2 = .slice none 0 0 ∧
 (kind = 1 ∧ 0 ≤ t.1 ∧ t.1 ≤ 1 ∧ t.2.1 = ⟨#[]⟩ ∨ kind = 2 ∧ -100 ≤ t.1 ∧ t.1 < 200 ∧ t.2.1 = ⟨#[]⟩ ∨
  kind = 3 ∧ (-9223372036854775808 ≤ t.1 ∧ t.1 ≤ 9223372036854775807) ∧ t.2.1 = ⟨#[]⟩ ∨ kind = 4 ∧ t.1 = 0 ∧ t.2.1.size ≤ 8)
def LenOk (rep len : Nat) : Prop := (rep = 0 → len = 1) ∧ (rep = 1 → len ≤ 1) ∧ len ≤ 3
def ListAt (w : World) (S : Nat → Prop) (T : Tr → Prop) (ao : Option Addr) (len : Nat) : Prop := ∀ j, j < len → ∃ b off t, ao = some ⟨b, off, none⟩ ∧ S b ∧ b < w.heap.size ∧
 w.cell? ⟨b, off + j * 3, none⟩ = some (.int .i64 t.1) ∧ w.cell? ⟨b, off + j * 3 + 1, none⟩ = some (.string t.2.1) ∧ w.cell? ⟨b, off + j * 3 + 2, none⟩ = some t.2.2 ∧ T t
def KidsAt (F : List Fd) (P : Nat → Nat) (w : World) (S : Nat → Prop) (TT : Nat → Tr → Prop) (at_ m : Nat) (ao : Option Addr) : Prop := ∀ i, at_ < i → i < m → P i = at_ →
 ∃ b off ao2 len2 cap2, ao = some ⟨b, off, none⟩ ∧ S b ∧ b < w.heap.size ∧ w.cell? ⟨b, off + cntTo P at_ i, none⟩ = some (.slice ao2 len2 cap2) ∧ LenOk (fAt F i).rep len2 ∧ ListAt w S (TT i) ao2 len2
def TreeAt (F : List Fd) (P : Nat → Nat) (n : Nat) (w : World) (S : Nat → Prop) : Nat → Nat → Tr → Prop
 | 0, _, _ => False
 | k + 1, at_, t => if (fAt F at_).kind ≠ 0 then LeafFit (fAt F at_).kind t else
  t.1 = 0 ∧ t.2.1 = ⟨#[]⟩ ∧ ∃ ao cap, t.2.2 = .slice ao (cntTo P at_ n) cap ∧ KidsAt F P w S (fun i t => TreeAt F P n w S k i t) at_ n ao
theorem TreeAt.slice {F : List Fd} {P : Nat → Nat} {n : Nat} {w : World} {S : Nat → Prop} : ∀ (k at_ : Nat) (t : Tr), TreeAt F P n w S k at_ t → ∃ ao m c, t.2.2 = .slice ao m c
 | 0, _, _, h => h.elim
 | k + 1, at_, t, h => by
  unfold TreeAt at h
  split at h
  · exact ⟨_, _, _, h.1⟩
  · obtain ⟨-, -, ao, cap, h3, -⟩ := h; exact ⟨_, _, _, h3⟩
def KeepS (S : Nat → Prop) (w w' : World) : Prop := w.heap.size ≤ w'.heap.size ∧ ∀ b, S b → b < w.heap.size → w'.heap[b]? = w.heap[b]?
theorem KeepS.of {S : Nat → Prop} {w w' : World} (h : Below w.heap.size w w') : KeepS S w w' := ⟨h.size, fun b _ hb => h.block b hb⟩
theorem KeepS.ofBut {S : Nat → Prop} {g : Nat} {w w' : World} (h : But g w w') (hg : ¬ S g) : KeepS S w w' := ⟨h.size, fun b hb hl => h.block b hl (fun e => hg (e ▸ hb))⟩
theorem KeepS.grown {S : Nat → Prop} {row : Option Nat} {w w' : World} (h : w.grownBy w' row) (hg : ∀ b, S b → some b ≠ row) : KeepS S w w' := ⟨h.size, fun b hb hl => h.block b hl (hg b hb)⟩
theorem KeepS.cell {S : Nat → Prop} {w w' : World} (h : KeepS S w w') {a : Addr} {v : Value} (hl : S a.block) (hb : a.block < w.heap.size) (hc : w.cell? a = some v) : w'.cell? a = some v := by
 rw [World.cell?_of_block (h.2 a.block hl hb)]; exact hc
theorem ListAt.keep {w w' : World} {S : Nat → Prop} {T T' : Tr → Prop} {ao : Option Addr} {len : Nat} (h : ListAt w S T ao len) (hk : KeepS S w w') (hT : ∀ t, T t → T' t) : ListAt w' S T' ao len := fun j hj => by
 obtain ⟨b, off, t, e, h1, h2, c0, c1, c2, h3⟩ := h j hj
 exact ⟨b, off, t, e, h1, Nat.lt_of_lt_of_le h2 hk.1, hk.cell (by exact h1) (by exact h2) c0, hk.cell (by exact h1) (by exact h2) c1, hk.cell (by exact h1) (by exact h2) c2, hT t h3⟩
theorem KidsAt.keep {F : List Fd} {P : Nat → Nat} {w w' : World} {S : Nat → Prop} {TT TT' : Nat → Tr → Prop} {at_ m : Nat} {ao : Option Addr} (h : KidsAt F P w S TT at_ m ao) (hk : KeepS S w w') (hT : ∀ i t, TT i t → TT' i t) : KidsAt F P w' S TT' at_ m ao := fun i h1 h2 h3 => by
 obtain ⟨b, off, ao2, len2, cap2, e, g1, g2, c, hl, hL⟩ := h i h1 h2 h3
 exact ⟨b, off, ao2, len2, cap2, e, g1, Nat.lt_of_lt_of_le g2 hk.1, hk.cell (by exact g1) (by exact g2) c, hl, hL.keep hk (hT i)⟩
theorem TreeAt.keep {F : List Fd} {P : Nat → Nat} {n : Nat} {w w' : World} {S : Nat → Prop} (hk : KeepS S w w') : ∀ (k at_ : Nat) (t : Tr), TreeAt F P n w S k at_ t → TreeAt F P n w' S k at_ t
 | 0, _, _, h => h
 | k + 1, at_, t, h => by
  unfold TreeAt at h ⊢
  split
  · rename_i h0; rw [if_pos h0] at h; exact h
  · rename_i h0
    rw [if_neg h0] at h
    obtain ⟨h1, h2, ao, cap, h3, h4⟩ := h
    exact ⟨h1, h2, ao, cap, h3, h4.keep hk (fun i t => TreeAt.keep hk k i t)⟩
theorem ListAt.mono {w : World} {S S' : Nat → Prop} {T T' : Tr → Prop} {ao : Option Addr} {len : Nat} (h : ListAt w S T ao len) (hS : ∀ b, b < w.heap.size → S b → S' b) (hT : ∀ t, T t → T' t) : ListAt w S' T' ao len := fun j hj => by
 obtain ⟨b, off, t, e, h1, h2, c0, c1, c2, h3⟩ := h j hj
 exact ⟨b, off, t, e, hS b h2 h1, h2, c0, c1, c2, hT t h3⟩
theorem KidsAt.mono {F : List Fd} {P : Nat → Nat} {w : World} {S S' : Nat → Prop} {TT TT' : Nat → Tr → Prop} {at_ m : Nat} {ao : Option Addr} (h : KidsAt F P w S TT at_ m ao) (hS : ∀ b, b < w.heap.size → S b → S' b) (hT : ∀ i t, TT i t → TT' i t) : KidsAt F P w S' TT' at_ m ao := fun i g1 g2 g3 => by
 obtain ⟨b, off, ao2, len2, cap2, e, q1, q2, c, hlk, hL⟩ := h i g1 g2 g3
 exact ⟨b, off, ao2, len2, cap2, e, hS b q2 q1, q2, c, hlk, hL.mono hS (hT i)⟩
theorem TreeAt.mono {F : List Fd} {P : Nat → Nat} {n : Nat} {w : World} {S S' : Nat → Prop} (hS : ∀ b, b < w.heap.size → S b → S' b) : ∀ (k at_ : Nat) (t : Tr), TreeAt F P n w S k at_ t → TreeAt F P n w S' k at_ t
 | 0, _, _, h => h
 | k + 1, at_, t, h => by
  unfold TreeAt at h ⊢
  split
  · rename_i h0; rw [if_pos h0] at h; exact h
  · rename_i h0
    rw [if_neg h0] at h
    obtain ⟨h1, h2, ao, cap, h3, h4⟩ := h
    exact ⟨h1, h2, ao, cap, h3, h4.mono hS (fun i t => TreeAt.mono hS k i t)⟩
def GaveT (C : MkC) (g k at_ : Nat) (w : World) (e : Ending) (w' : World) : Prop :=
 ∃ (t : Tr) (a : Nat), e = .returned (.agg #[.int .i64 t.1, .string t.2.1, t.2.2]) ∧ Hid (TreeAt C.F C.P C.n w' (fun b => w.heap.size ≤ b) k at_ t) ∧ Hid (Mk C w' g a) ∧ Hid (But g w w')
end Go.Proofs.YtebmbkbnngeabaaGreat
