/- The reference of vector: its numbers, Get, Turn, Diff. -/
import Derived.Test.YthjfigaalknoiaaVRef
set_option linter.unusedVariables false
set_option linter.unusedSimpArgs false
namespace Go.Proofs.Ythjfigaalknoiaa
open Go.RowKit Go.Proofs.YthjfigaalknoiaaW.PrintWords Pt

theorem numbers92 (w : World) : Calls Try.prog 92 #[] w fun e w' => ∃ A c, e = .returned (.slice A 32 c) ∧ Below w.heap.size w w' ∧ (Kd.int .i64).C w' A 32 vns := by
  go_enter Try.func92, Try.ntmps92
  go_wp2
  go_loopw [1, 2] (fun v2 i wr => ∃ k : Nat, k ≤ 32 ∧ i = .int .i64 ((k : Int) - 16) ∧ Hid (R2 w.heap.size w wr vcs vns (.slice none 0 0) 0 v2 k)) (fun _ i _ => (16 - intOf i).toNat)
  case atStart => exact ⟨0, by omega, rfl, Lib.hid (R2.start w vcs vns)⟩
  case round =>
    obtain ⟨k, hk, rfl, HR⟩ := hrel
    by_cases hlt : k < 32
    · have HN := Lib.hid (vns_at k hlt)
      have h1 : (k : Int) - 16 ≤ 15 := by omega
      have hs1 : k + 1 ≤ 9223372036854775807 := by omega
      go_wp2_with (at_builtin; refine wpList_append_one (W := wr) rfl _ _ 23 3 _ 8 rfl Try.underlying23 info3 rfl (.int .i64 ((k : Int) - 16)) rfl rfl HR.out.o2 rfl HR.out.sz hs1 (by omega) ?_; intro v2' w2 hg2 ho2; have HR2 := Lib.hid ((HR.out.alloc _).snd HN.out hg2 ho2); clear hg2 ho2)
      go_roundw
      case rel => exact ⟨k + 1, by omega, by congr 1; omega, HR2⟩
      case measure => simp [intOf]; omega
    · obtain rfl : k = 32 := by omega
      obtain ⟨A2, c2, rfl, hV⟩ : ∃ A2 c2, u1 = .slice A2 32 c2 ∧ (Kd.int .i64).C wr A2 32 vns := by
        have e2 := HR.out.o2
        rw [show vns.take 32 = vns from by decide] at e2
        rcases e2.2 with ⟨_, hz⟩ | ⟨g, cap, cur, rfl, hb, _, hc, _⟩
        · omega
        · exact ⟨_, cap, rfl, int_row ⟨by rfl, fun _ => ⟨_, rfl, fun j u hu => e2.cells (g := g) rfl j u hu⟩⟩ (by decide)⟩
      have HV := Lib.hid hV
      clear hV
      go_wp2
      go_ret
      exact ⟨A2, c2, rfl, HR.out.bl, HV.out⟩

theorem rvget_any (A : Option Addr) (nn cc : Nat) (bs : List Int) (i : Int) (w : World) (hB : Bytes w A nn bs) (h63 : i < 9223372036854775808) :
    Calls Try.prog 54 #[.slice A nn cc, .int .i64 i] w fun e w' => e = .returned (.tuple #[.int .i64 (ansAt vcs vns bs nn i).v, .int .i64 (ansAt vcs vns bs nn i).n, .int .i64 (ansAt vcs vns bs nn i).e]) ∧ Below w.heap.size w w' := by
  have HB := Lib.hid hB
  clear hB
  go_enter Try.func54, Try.ntmps54
  go_wp2_with fail
  refine (codes91 w).mono ?_
  rintro e w1 ⟨rfl, hw⟩
  have HC1 : Hid (Kd.string.C w1 (some ⟨w.heap.size, 0, none⟩) 32 vcs) := Lib.hid (hw ▸ codes_row w)
  have HB1 : Hid (Below w.heap.size w w1) := Lib.hid (by rw [← hw]; exact below_alloc (Below.refl _ _) _)
  clear hw
  go_wp2_with fail
  refine (numbers92 w1).mono ?_
  rintro e w2 ⟨A2, c2, rfl, hb, hv⟩
  have HC2 := Lib.hid (Kd.C_below HC1.out hb)
  have HV2 := Lib.hid hv
  have HB2 := Lib.hid (below_step HB1.out hb)
  clear hb hv
  go_wp2_with fail
  refine (rmake_any (some ⟨w.heap.size, 0, none⟩) A2 32 32 32 c2 vcs vns w2 HC2.out HV2.out vshort).mono ?_
  intro e w3 hm
  obtain ⟨p, rfl, ht⟩ := hm.tree vgood ((free_iff vgood).2 vapart)
  have HT := Lib.hid ht
  have HB3 := Lib.hid (below_step HB2.out hm.below)
  clear hm ht
  go_wp2_with fail
  refine (rget_any A nn cc bs i w3 HT.out vgood (HB.out.below HB3.out) h63).mono ?_
  rintro e w4 ⟨rfl, hb⟩
  have HB4 := Lib.hid (below_step HB3.out hb)
  clear hb
  simp only []
  go_wp2
  go_ret3
  exact ⟨rfl, HB4.out⟩

set_option maxRecDepth 100000 in
set_option maxHeartbeats 1000000 in
theorem rvturn_any (p d : Int) (w : World) (hd : -9223372036854775808 ≤ d) (hd' : d < 9223372036854775808) : Calls Try.prog 58 #[.int .i64 p, .int .i64 d] w fun e w' => e = .returned (.tuple #[.int .i64 (vturn p d).1, .int .i64 (vturn p d).2]) ∧ w = w' := by
  cases hp : isPart p with
  | false =>
    have H : Hid (vturn p d = (0, 3)) := Lib.hid (by unfold vturn; rw [if_pos (.inl hp)])
    go_enter Try.func58, Try.ntmps58
    go_wp2_with fail
    refine (rpart_any p w).mono ?_
    rintro e w' ⟨rfl, rfl⟩
    rw [hp]
    go_wp2
    go_ret2
    exact ⟨by rw [H.out]; rfl, rfl⟩
  | true =>
    rcases (by omega : d < -16 ∨ 15 < d ∨ (-16 ≤ d ∧ d ≤ 15)) with h | h | ⟨h, h'⟩
    · have H : Hid (vturn p d = (0, 3)) := Lib.hid (by unfold vturn; rw [if_pos (by omega)])
      go_enter Try.func58, Try.ntmps58
      go_wp2_with fail
      refine (rpart_any p w).mono ?_
      rintro e w' ⟨rfl, rfl⟩
      rw [hp]
      go_wp2
      go_ret2
      exact ⟨by rw [H.out]; rfl, rfl⟩
    · have H : Hid (vturn p d = (0, 3)) := Lib.hid (by unfold vturn; rw [if_pos (by omega)])
      have h1 : ¬ d < -16 := by omega
      go_enter Try.func58, Try.ntmps58
      go_wp2_with fail
      refine (rpart_any p w).mono ?_
      rintro e w' ⟨rfl, rfl⟩
      rw [hp]
      go_wp2
      go_ret2
      exact ⟨by rw [H.out]; rfl, rfl⟩
    · have H : Hid (vturn p d = if isPart (p + d) then (p + d, 0) else if isPart (p + d + 32) then (p + d + 32, 0) else if isPart (p + d - 32) then (p + d - 32, 0) else (0, 12)) := Lib.hid (by unfold vturn; rw [if_neg (by rw [hp]; simp; omega)])
      have hp2 : -15 ≤ p ∧ p ≤ 15 := by unfold isPart at hp; simpa using hp
      obtain ⟨q1, q2⟩ := hp2
      have h1 : ¬ d < -16 := by omega
      have h2 : ¬ 15 < d := by omega
      cases hs : isPart (p + d) with
      | true =>
        by_cases hd0 : d < 0 <;> (
        go_enter Try.func58, Try.ntmps58
        go_wp2_with fail
        refine (rpart_any p w).mono ?_
        rintro e w' ⟨rfl, rfl⟩
        rw [hp]
        go_wp2_with fail
        refine (rpart_any (p + d) w).mono ?_
        rintro e w' ⟨rfl, rfl⟩
        rw [hs]
        go_wp2
        go_ret2
        exact ⟨by rw [H.out, hs]; rfl, rfl⟩)
      | false =>
        by_cases hd0 : d < 0
        · have H2 : Hid (isPart (p + d - 32) = false) := Lib.hid (by unfold isPart; simp; omega)
          cases hs2 : isPart (p + d + 32) with
          | true =>
            go_enter Try.func58, Try.ntmps58
            go_wp2_with fail
            refine (rpart_any p w).mono ?_
            rintro e w' ⟨rfl, rfl⟩
            rw [hp]
            go_wp2_with fail
            refine (rpart_any (p + d) w).mono ?_
            rintro e w' ⟨rfl, rfl⟩
            rw [hs]
            go_wp2_with fail
            refine (rpart_any (p + (d + 32)) w).mono ?_
            rintro e w' ⟨rfl, rfl⟩
            rw [show p + (d + 32) = p + d + 32 by omega, hs2]
            go_wp2
            go_ret2
            exact ⟨by rw [H.out, hs, hs2, show p + d + 32 = p + (d + 32) by omega]; rfl, rfl⟩
          | false =>
            go_enter Try.func58, Try.ntmps58
            go_wp2_with fail
            refine (rpart_any p w).mono ?_
            rintro e w' ⟨rfl, rfl⟩
            rw [hp]
            go_wp2_with fail
            refine (rpart_any (p + d) w).mono ?_
            rintro e w' ⟨rfl, rfl⟩
            rw [hs]
            go_wp2_with fail
            refine (rpart_any (p + (d + 32)) w).mono ?_
            rintro e w' ⟨rfl, rfl⟩
            rw [show p + (d + 32) = p + d + 32 by omega, hs2]
            go_wp2
            go_ret2
            exact ⟨by rw [H.out, hs, hs2, H2.out]; rfl, rfl⟩
        · have H2 : Hid (isPart (p + d + 32) = false) := Lib.hid (by unfold isPart; simp; omega)
          cases hs2 : isPart (p + d - 32) with
          | true =>
            go_enter Try.func58, Try.ntmps58
            go_wp2_with fail
            refine (rpart_any p w).mono ?_
            rintro e w' ⟨rfl, rfl⟩
            rw [hp]
            go_wp2_with fail
            refine (rpart_any (p + d) w).mono ?_
            rintro e w' ⟨rfl, rfl⟩
            rw [hs]
            go_wp2_with fail
            refine (rpart_any (p + (d - 32)) w).mono ?_
            rintro e w' ⟨rfl, rfl⟩
            rw [show p + (d - 32) = p + d - 32 by omega, hs2]
            go_wp2
            go_ret2
            exact ⟨by rw [H.out, hs, H2.out, hs2, show p + d - 32 = p + (d - 32) by omega]; rfl, rfl⟩
          | false =>
            go_enter Try.func58, Try.ntmps58
            go_wp2_with fail
            refine (rpart_any p w).mono ?_
            rintro e w' ⟨rfl, rfl⟩
            rw [hp]
            go_wp2_with fail
            refine (rpart_any (p + d) w).mono ?_
            rintro e w' ⟨rfl, rfl⟩
            rw [hs]
            go_wp2_with fail
            refine (rpart_any (p + (d - 32)) w).mono ?_
            rintro e w' ⟨rfl, rfl⟩
            rw [show p + (d - 32) = p + d - 32 by omega, hs2]
            go_wp2
            go_ret2
            exact ⟨by rw [H.out, hs, H2.out, hs2]; rfl, rfl⟩
end Go.Proofs.Ythjfigaalknoiaa
