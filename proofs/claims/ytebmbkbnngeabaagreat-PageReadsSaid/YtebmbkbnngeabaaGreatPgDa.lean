/- Chapter 18: what a page's bytes say; the walk over page.read. -/
import Derived.Test.YtebmbkbnngeabaaGreatPgK
import Derived.Test.YtebmbkbnngeabaaGreatLevI
import Derived.Test.YtebmbkbnngeabaaGreatLevS
import Derived.Test.YtebmbkbnngeabaaGreatPlainD2
import Derived.Test.YtebmbkbnngeabaaGreatRPlainD
import Derived.Test.YtebmbkbnngeabaaGreatDelGD
import Derived.Test.YtebmbkbnngeabaaGreatDelHC
import Derived.Test.YtebmbkbnngeabaaGreatBunB
set_option linter.unusedSimpArgs false
namespace Go.Proofs.YtebmbkbnngeabaaGreat
open Go.RowKit
set_option linter.unusedVariables false
def readV (kind : Nat) (enc : Int) (b : List Nat) (n : Nat) (ws : List Vl) : List Vl × Nat :=
 if enc = 2 then dDec b n ws else if enc = 1 then dDecM kind b n else decodeM kind b n
set_option maxHeartbeats 4000000 in
set_option maxRecDepth 100000 in
theorem pread_any (kind : Nat) (enc : Int) (ao : Option Addr) (L cap : Nat) (b : List Nat) (n : Nat) (aoW : Option Addr) (m capW : Nat) (ws : List Vl) (w : World) (hk : kind ≤ 4) (hl : b.length = L) (hc : CellsAt w w.heap.size ao L (u8c b)) (hz : ao = none → L = 0) (hcap : L ≤ cap) (h256 : ∀ x ∈ b, x < 256) (hb : L ≤ 1000000)
 (hm : ws.length = m) (hm2 : m ≤ 1000000) (hw : CellsAt w w.heap.size aoW (m * 2) (vlc ws)) :
 Calls Tryz.prog 28 #[.int .i64 (kind : Nat), .int .i64 enc, .slice ao L cap, .int .i64 (n : Nat), .slice aoW m capW] w (GaveDec w (readV kind enc b n ws)) := by
 have Hsg := Lib.hid (psign_any enc w)
 unfold signP at Hsg
 unfold readV
 by_cases h2 : enc = 2
 · subst h2
   rw [if_neg (by decide), if_neg (by decide), if_pos rfl] at Hsg
   rw [if_pos rfl]
   have HD := Lib.hid (dDecode_any ao L cap (n : Int) aoW m capW b ws w hl hc hz hcap h256 hb hm hm2 hw)
   obtain ⟨rv, hrv⟩ : ∃ rv, rv = dDec b n ws := ⟨_, rfl⟩
   rw [← hrv] at HD ⊢
   clear hl hc hz h256 hm hw hrv
   go_enter Tryz.func28, Tryz.ntmps28
   go_wp2_with fail
   refine Hsg.out.mono ?_
   rintro e x ⟨rfl, rfl⟩
   go_wp2_with fail
   refine HD.out.mono ?_
   rintro e x ⟨v, rfl, ho, hbl⟩
   have HO := Lib.hid ho; have HB := Lib.hid hbl
   clear ho hbl
   go_wp2
   go_ret2
   exact ⟨v, rfl, HO.out, HB.out⟩
 · by_cases h1 : enc = 1
   · subst h1
     rw [if_neg (by decide), if_pos rfl] at Hsg
     rw [if_neg h2, if_pos rfl]
     have HD := Lib.hid (ddecode_any (kind : Int) ao L cap b (n : Int) w (by omega) (by omega) hl h256 hb hcap hc hz)
     obtain ⟨rv, hrv⟩ : ∃ rv, rv = dDecM kind b n := ⟨_, rfl⟩
     rw [← hrv] at HD ⊢
     clear hl hc hz h256 hm hw h2 hrv
     go_enter Tryz.func28, Tryz.ntmps28
     go_wp2_with fail
     refine Hsg.out.mono ?_
     rintro e x ⟨rfl, rfl⟩
     go_wp2_with fail
     refine HD.out.mono ?_
     rintro e x ⟨v, rfl, ho, hbl⟩
     have HO := Lib.hid ho; have HB := Lib.hid hbl
     clear ho hbl
     go_wp2
     go_ret2
     exact ⟨v, rfl, HO.out, HB.out⟩
   · obtain ⟨sg, hsg⟩ : ∃ sg : Int, sg = (if enc = 0 then 112 else if enc = 1 then 100 else if enc = 2 then 119 else 32) := ⟨_, rfl⟩
     have f1 : (sg == 119) = false := by rw [beq_eq_false_iff_ne, hsg]; split <;> simp [h1, h2]
     have f2 : (sg == 100) = false := by rw [beq_eq_false_iff_ne, hsg]; split <;> simp [h1, h2]
     have f3 : ¬ sg = 119 := by simpa using f1
     have f4 : ¬ sg = 100 := by simpa using f2
     rw [← hsg] at Hsg
     rw [if_neg h2, if_neg h1]
     have HD := Lib.hid (decode_any (kind : Int) ao L cap b (n : Int) w hl h256 (by omega) hc hz)
     obtain ⟨rv, hrv⟩ : ∃ rv, rv = decodeM kind b n := ⟨_, rfl⟩
     rw [← hrv] at HD ⊢
     clear hl hc hz h256 hm hw h2 h1 hsg hrv
     go_enter Tryz.func28, Tryz.ntmps28
     go_wp2_with fail
     refine Hsg.out.mono ?_
     rintro e x ⟨rfl, rfl⟩
     go_wp2_with fail
     refine HD.out.mono ?_
     rintro e x ⟨v, rfl, ho, hbl⟩
     have HO := Lib.hid ho; have HB := Lib.hid hbl
     clear ho hbl
     go_wp2
     go_ret2
     exact ⟨v, rfl, HO.out, HB.out⟩
end Go.Proofs.YtebmbkbnngeabaaGreat
