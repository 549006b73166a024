/- praxinoscopelaw06.VectorGets returns true: the walk. -/
import Derived.Test.YthjfigaalknoiaaKept
import Derived.Test.YthjfigaalknoiaaLaws6
set_option linter.unusedVariables false
set_option linter.unusedSimpArgs false
namespace Go.Proofs.Ythjfigaalknoiaa
open Go.RowKit Go.Proofs.YthjfigaalknoiaaW.PrintWords Pt

theorem Lent.full {B g n cap : Nat} {W : World} {bs : List Int} (h : Lent B W g n cap bs) (hn : n ≤ 100) (hr : ∀ x ∈ bs, 0 ≤ x ∧ x < 256) : Bytes W (some ⟨g, 0, none⟩) n bs := ⟨h.bytes (by omega), by omega, hr⟩

set_option maxRecDepth 100000 in
set_option maxHeartbeats 2000000 in
theorem vgets_any (A : Option Addr) (n c : Nat) (bs : List Int) (i : Int) (w : World) (hB : Bytes w A n bs) (h63 : i < 9223372036854775808) :
    Calls Try.prog 12 #[.slice A n c, .int .i64 i] w fun e w' => e = .returned (.bool true) ∧ Below w.heap.size w w' := by
  have HB := Lib.hid hB
  clear hB
  by_cases hn : 100 < n
  · have hn2 : (100 : Int) < (n : Int) := by omega
    go_enter Try.func12, Try.ntmps12
    go_wp2_with fail
    refine (awake6_any w).mono ?_
    rintro e w' ⟨rfl, hb⟩
    have HBb := Lib.hid hb
    clear hb
    go_wp2
    go_ret
    exact ⟨rfl, HBb.out⟩
  · have hn2 : ¬ (100 : Int) < (n : Int) := by omega
    have hn3 : n ≤ 100 := by omega
    obtain ⟨an, han⟩ : ∃ an, ansAt vcs vns bs n i = an := ⟨_, rfl⟩
    have HAN := Lib.hid han
    clear han
    have b1 : (an.v == an.v) = true := by simp
    have b2 : (an.n == an.n) = true := by simp
    have b3 : (an.e == an.e) = true := by simp
    go_enter Try.func12, Try.ntmps12
    go_wp2_with fail
    refine (lent_any A n c bs w HB.out hn3).mono ?_
    rintro e w1 ⟨g, cap, rfl, hb, hl⟩
    have HL1 := Lib.hid hl
    have HB1 := Lib.hid hb
    clear hl hb
    go_wp2_with fail
    refine (vget_any (some ⟨g, 0, none⟩) n cap bs i w1 (HL1.out.full hn3 HB.out.2.2) h63).mono ?_
    rw [HAN.out]
    rintro e w2 ⟨rfl, hb⟩
    have HL2 := Lib.hid (HL1.out.below hb)
    have HB2 := Lib.hid (below_step HB1.out hb)
    clear hb
    simp only []
    go_wp2_with fail
    refine (rvget_any A n c bs i w2 (HB.out.below HB2.out) h63).mono ?_
    rw [HAN.out]
    rintro e w3 ⟨rfl, hb⟩
    have HL3 := Lib.hid (HL2.out.below hb)
    have HB3 := Lib.hid (below_step HB2.out hb)
    clear hb
    simp only []
    go_wp2_with fail
    refine (kept_any A c bs w3 ⟨HL3.out, (HB.out.below HB3.out).1⟩ hn3).mono ?_
    rintro e w4 ⟨rfl, hb⟩
    have HB4 := Lib.hid (below_step HB3.out hb)
    clear hb
    go_wp2_with fail
    refine (awake6_any w4).mono ?_
    rintro e w' ⟨rfl, hb⟩
    have HB5 := Lib.hid (below_step HB4.out hb)
    clear hb
    go_wp2
    go_ret
    exact ⟨rfl, HB5.out⟩
end Go.Proofs.Ythjfigaalknoiaa
