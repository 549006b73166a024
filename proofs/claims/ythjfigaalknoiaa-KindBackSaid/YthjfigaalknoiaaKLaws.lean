/- KindReads and KindTells return true: the walks. -/
import Derived.Test.YthjfigaalknoiaaKept
import Derived.Test.YthjfigaalknoiaaLaws5
set_option linter.unusedVariables false
set_option linter.unusedSimpArgs false
namespace Go.Proofs.Ythjfigaalknoiaa
open Go.RowKit Go.Proofs.YthjfigaalknoiaaW.PrintWords Pt

theorem Lent.full5 {B g n cap : Nat} {W : World} {bs : List Int} (h : Lent B W g n cap bs) (hn : n ≤ 100) (hr : ∀ x ∈ bs, 0 ≤ x ∧ x < 256) : Bytes W (some ⟨g, 0, none⟩) n bs := ⟨h.bytes (by omega), by omega, hr⟩

set_option maxRecDepth 100000 in
set_option maxHeartbeats 2000000 in
theorem kreads_any (A : Option Addr) (n c : Nat) (bs : List Int) (i : Int) (w : World) (hB : Bytes w A n bs) (h63 : i < 9223372036854775808) :
    Calls Try.prog 7 #[.slice A n c, .int .i64 i] w fun e w' => e = .returned (.bool true) ∧ Below w.heap.size w w' := by
  have HB := Lib.hid hB
  clear hB
  by_cases hn : 100 < n
  · have hn2 : (100 : Int) < (n : Int) := by omega
    go_enter Try.func7, Try.ntmps7
    go_wp2_with fail
    refine (awake5_any w).mono ?_
    rintro e w' ⟨rfl, hb⟩
    have HBb := Lib.hid hb
    clear hb
    go_wp2
    go_ret
    exact ⟨rfl, HBb.out⟩
  · have hn2 : ¬ (100 : Int) < (n : Int) := by omega
    have hn3 : n ≤ 100 := by omega
    obtain ⟨an, han⟩ : ∃ an, ansAt kcs kns bs n i = an := ⟨_, rfl⟩
    have HAN := Lib.hid han
    clear han
    have b1 : (an.v == an.v) = true := by simp
    have b2 : (an.n == an.n) = true := by simp
    have b3 : (an.e == an.e) = true := by simp
    go_enter Try.func7, Try.ntmps7
    go_wp2_with fail
    refine (lent_any A n c bs w HB.out hn3).mono ?_
    rintro e w1 ⟨g, cap, rfl, hb, hl⟩
    have HL1 := Lib.hid hl
    have HB1 := Lib.hid hb
    clear hl hb
    go_wp2_with fail
    refine (kget_any (some ⟨g, 0, none⟩) n cap bs i w1 (HL1.out.full5 hn3 HB.out.2.2) h63).mono ?_
    rw [HAN.out]
    rintro e w2 ⟨rfl, hb⟩
    have HL2 := Lib.hid (HL1.out.below hb)
    have HB2 := Lib.hid (below_step HB1.out hb)
    clear hb
    simp only []
    go_wp2_with fail
    refine (rkget_any A n c bs i w2 (HB.out.below HB2.out) h63).mono ?_
    rw [HAN.out]
    rintro e w3 ⟨rfl, hb⟩
    have HL3 := Lib.hid (HL2.out.below hb)
    have HB3 := Lib.hid (below_step HB2.out hb)
    clear hb
    simp only []
    go_wp2_with fail
    refine (kept_any A c bs w3 ⟨HL3.out, (HB.out.below HB3.out).1⟩ hn3).mono ?_
    rintro e w4 ⟨rfl, hb⟩
    have HB4 := Lib.hid (below_step HB3.out hb)
    clear hb
    go_wp2_with fail
    refine (awake5_any w4).mono ?_
    rintro e w' ⟨rfl, hb⟩
    have HB5 := Lib.hid (below_step HB4.out hb)
    clear hb
    go_wp2
    go_ret
    exact ⟨rfl, HB5.out⟩

theorem kof_form (n : Int) : ∃ p1 p2 p3 p4 p5 e, kof n = (.agg #[.bool p1, .bool p2, .bool p3, .bool p4, .bool p5], e) := by
  by_cases h : n < 1 ∨ 10 < n
  · exact ⟨_, _, _, _, _, _, by unfold kof; rw [if_pos h]; rfl⟩
  · obtain ⟨k, rfl⟩ : ∃ k : Nat, n = (k : Int) + 1 := ⟨(n - 1).toNat, by omega⟩
    obtain ⟨c, p1, p2, p3, p4, p5, _, h2⟩ := krow_parts k (by omega)
    exact ⟨p1, p2, p3, p4, p5, 0, h2⟩

set_option maxRecDepth 100000 in
set_option maxHeartbeats 2000000 in
theorem ktells_any (n : Int) (w : World) :
    Calls Try.prog 8 #[.int .i64 n] w fun e w' => e = .returned (.bool true) ∧ Below w.heap.size w w' := by
  obtain ⟨p1, p2, p3, p4, p5, er, hk⟩ := kof_form n
  obtain ⟨u, hu⟩ : ∃ u, rlook kcs kns n = u := ⟨_, rfl⟩
  have HK := Lib.hid hk
  have HU := Lib.hid hu
  clear hk hu
  have b2 : (u.2 == u.2) = true := by simp
  have b3 : (er == er) = true := by simp
  have heq := eq63_same p1 p2 p3 p4 p5
  go_enter Try.func8, Try.ntmps8
  go_wp2_with fail
  refine (kput_any n w).mono ?_
  rw [HU.out]
  rintro e w1 ⟨rfl, hb⟩
  have HB1 := Lib.hid hb
  clear hb
  go_wp2_with fail
  refine (rkput_any n w1).mono ?_
  rw [HU.out]
  rintro e w2 ⟨rfl, hb⟩
  have HB2 := Lib.hid (below_step HB1.out hb)
  clear hb
  go_wp2_with fail
  refine (kof_any n w2).mono ?_
  rw [HK.out]
  rintro e w3 ⟨rfl, hb⟩
  have HB3 := Lib.hid (below_step HB2.out hb)
  clear hb
  go_wp2_with fail
  refine (rkof_any n _).mono ?_
  rw [HK.out]
  rintro e w4 ⟨rfl, hb⟩
  have hG : w4.heap[w3.heap.size]? = some (.cells #[.bool p1, .bool p2, .bool p3, .bool p4, .bool p5] 63 (0, 0)) := (hb.block _ (by simp)).trans (at_alloc _ _ rfl)
  have hz : w3.heap.size < w4.heap.size := (Array.getElem?_eq_some_iff.1 hG).1
  have c0 : w4.cell? ⟨w3.heap.size, 0, none⟩ = some (.bool p1) := by rw [cell_of_heap hG]; rfl
  have c1 : w4.cell? ⟨w3.heap.size, 1, none⟩ = some (.bool p2) := by rw [cell_of_heap hG]; rfl
  have c2 : w4.cell? ⟨w3.heap.size, 2, none⟩ = some (.bool p3) := by rw [cell_of_heap hG]; rfl
  have c3 : w4.cell? ⟨w3.heap.size, 3, none⟩ = some (.bool p4) := by rw [cell_of_heap hG]; rfl
  have c4 : w4.cell? ⟨w3.heap.size, 4, none⟩ = some (.bool p5) := by rw [cell_of_heap hG]; rfl
  have HB4 := Lib.hid (below_step (below_alloc HB3.out _) hb)
  clear hb hG
  go_wp2_with fail
  refine (awake5_any _).mono ?_
  rintro e w' ⟨rfl, hb⟩
  have HB5 := Lib.hid (below_step (below_alloc HB4.out _) hb)
  clear hb
  go_wp2
  go_ret
  exact ⟨rfl, HB5.out⟩
end Go.Proofs.Ythjfigaalknoiaa
