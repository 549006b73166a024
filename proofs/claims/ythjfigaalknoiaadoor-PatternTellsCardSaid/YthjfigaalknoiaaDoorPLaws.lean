/- PatternReads and PatternTells return true: the walks. -/
import Derived.Test.YthjfigaalknoiaaDoorKept
import Derived.Test.YthjfigaalknoiaaDoorLaws7
set_option linter.unusedVariables false
set_option linter.unusedSimpArgs false
namespace Go.Proofs.YthjfigaalknoiaaDoor
open Go.RowKit Go.Proofs.YthjfigaalknoiaaDoorW.PrintWords Pt

theorem Lent.full7 {B g n cap : Nat} {W : World} {bs : List Int} (h : Lent B W g n cap bs) (hn : n ≤ 100) (hr : ∀ x ∈ bs, 0 ≤ x ∧ x < 256) : Bytes W (some ⟨g, 0, none⟩) n bs := ⟨h.bytes (by omega), by omega, hr⟩

set_option maxRecDepth 100000 in
set_option maxHeartbeats 2000000 in
theorem preads_any (A : Option Addr) (n c : Nat) (bs : List Int) (i : Int) (w : World) (hsp : Spaces w) (hB : Bytes w A n bs) (h63 : i < 9223372036854775808) :
    Calls Tryd.prog 5 #[.slice A n c, .int .i64 i] w fun e w' => e = .returned (.bool true) ∧ Below w.heap.size w w' := by
  have HB := Lib.hid hB
  have HSP := Lib.hid hsp
  clear hB hsp
  by_cases hn : 60 < n
  · have hn2 : (60 : Int) < (n : Int) := by omega
    go_enter Tryd.func5, Tryd.ntmps5
    go_wp2_with fail
    refine (awake7_any w HSP.out).mono ?_
    rintro e w' ⟨rfl, hb⟩
    have HBb := Lib.hid hb
    clear hb
    go_wp2
    go_ret
    exact ⟨rfl, HBb.out⟩
  · have hn2 : ¬ (60 : Int) < (n : Int) := by omega
    have hn3 : n ≤ 100 := by omega
    obtain ⟨an, han⟩ : ∃ an, ansAt pcs pns bs n i = an := ⟨_, rfl⟩
    have HAN := Lib.hid han
    clear han
    have b1 : (an.v == an.v) = true := by simp
    have b2 : (an.n == an.n) = true := by simp
    have b3 : (an.e == an.e) = true := by simp
    go_enter Tryd.func5, Tryd.ntmps5
    go_wp2_with fail
    refine (lent_any A n c bs w HB.out hn3).mono ?_
    rintro e w1 ⟨g, cap, rfl, hb, hl⟩
    have HL1 := Lib.hid hl
    have HB1 := Lib.hid hb
    clear hl hb
    go_wp2_with fail
    refine (pget_any (some ⟨g, 0, none⟩) n cap bs i w1 (HSP.out.below HB1.out) (HL1.out.full7 hn3 HB.out.2.2) h63).mono ?_
    rw [HAN.out]
    rintro e w2 ⟨rfl, hb⟩
    have HL2 := Lib.hid (HL1.out.below hb)
    have HB2 := Lib.hid (below_step HB1.out hb)
    clear hb
    simp only []
    go_wp2_with fail
    refine (rpget_any A n c bs i w2 (HB.out.below HB2.out) h63).mono ?_
    rw [HAN.out]
    rintro e w3 ⟨rfl, hb⟩
    have HL3 := Lib.hid (HL2.out.below hb)
    have HB3 := Lib.hid (below_step HB2.out hb)
    clear hb
    simp only []
    go_wp2_with fail
    refine (kept_any A c bs w3 ⟨HL3.out, (HB.out.below HB3.out).1⟩ hn3).mono ?_
    rintro e w4 ⟨rfl, hb⟩
    have HB4 := Lib.hid (below_step HB3.out hb)
    clear hb
    go_wp2_with fail
    refine (awake7_any w4 (HSP.out.below HB4.out)).mono ?_
    rintro e w' ⟨rfl, hb⟩
    have HB5 := Lib.hid (below_step HB4.out hb)
    clear hb
    go_wp2
    go_ret
    exact ⟨rfl, HB5.out⟩

set_option maxRecDepth 100000 in
set_option maxHeartbeats 2000000 in
theorem ptells_any (n b : Int) (w : World) (hsp : Spaces w) :
    Calls Tryd.prog 6 #[.int .i64 n, .int .i64 b] w fun e w' => e = .returned (.bool true) ∧ Below w.heap.size w w' := by
  obtain ⟨u, hu⟩ : ∃ u, rlook pcs pns n = u := ⟨_, rfl⟩
  obtain ⟨t, ht⟩ : ∃ t, phas n b = t := ⟨_, rfl⟩
  obtain ⟨m, hm⟩ : ∃ m, pcount n 6 = m := ⟨_, rfl⟩
  have HU := Lib.hid hu
  have HT := Lib.hid ht
  have HM := Lib.hid hm
  have HSP := Lib.hid hsp
  clear hu ht hm hsp
  have b2 : (u.2 == u.2) = true := by simp
  have b3 : (t == t) = true := by simp
  have b4 : ((m : Int) == (m : Int)) = true := by simp
  go_enter Tryd.func6, Tryd.ntmps6
  go_wp2_with fail
  refine (pput_any n w HSP.out).mono ?_
  rw [HU.out]
  rintro e w1 ⟨rfl, hb⟩
  have HB1 := Lib.hid hb
  clear hb
  go_wp2_with fail
  refine (rpput_any n w1).mono ?_
  rw [HU.out]
  rintro e w2 ⟨rfl, hb⟩
  have HB2 := Lib.hid (below_step HB1.out hb)
  clear hb
  go_wp2_with fail
  refine (has_any n b w2).mono ?_
  rw [HT.out]
  rintro e w3 ⟨rfl, hb⟩
  have HB3 := Lib.hid (below_step HB2.out hb)
  clear hb
  go_wp2_with fail
  refine (rhas_any n b w3).mono ?_
  rw [HT.out]
  rintro e w' ⟨rfl, rfl⟩
  go_wp2_with fail
  refine (pcnt_any n w3).mono ?_
  rw [HM.out]
  rintro e w4 ⟨rfl, hb⟩
  have HB4 := Lib.hid (below_step HB3.out hb)
  clear hb
  go_wp2_with fail
  refine (rpcnt_any n w4).mono ?_
  rw [HM.out]
  rintro e w' ⟨rfl, rfl⟩
  go_wp2_with fail
  refine (awake7_any w4 (HSP.out.below HB4.out)).mono ?_
  rintro e w5 ⟨rfl, hb⟩
  have HB5 := Lib.hid (below_step HB4.out hb)
  clear hb
  go_wp2
  go_ret
  exact ⟨rfl, HB5.out⟩
end Go.Proofs.YthjfigaalknoiaaDoor
