/- VectorTurns and VectorOne return true: the walks; Pick. -/
import Derived.Test.YthjfigaalknoiaaLaws6
set_option linter.unusedVariables false
set_option linter.unusedSimpArgs false
namespace Go.Proofs.Ythjfigaalknoiaa
open Go.RowKit Go.Proofs.YthjfigaalknoiaaW.PrintWords Pt

theorem pick_any (x n : Int) (w : World) (h0 : 0 < n) (h1 : n ≤ 1000) : Calls Try.prog 35 #[.int .i64 x, .int .i64 n] w fun e w' => e = .returned (.int .i64 (x % n)) ∧ w = w' := by
  obtain ⟨r, hr⟩ : ∃ r, x.tmod n = r := ⟨_, rfl⟩
  have hlt : r < n := by rw [← hr]; exact Int.tmod_lt_of_pos x h0
  have hgt : -n < r := by
    rw [← hr]
    have := Int.tmod_lt_of_pos (-x) h0
    rw [Int.neg_tmod] at this
    omega
  have H : Hid (x % n = if r < 0 then r + n else r) := Lib.hid (by
    have he := Int.emod_def x n
    have hx : n * (x.tdiv n) + r = x := by rw [← hr]; exact Int.mul_tdiv_add_tmod x n
    split
    · rename_i h
      have : x = (r + n) + n * (x.tdiv n - 1) := by rw [Int.mul_sub]; omega
      rw [this, Int.add_mul_emod_self_left]
      exact Int.emod_eq_of_lt (by omega) (by omega)
    · rename_i h
      have : x = r + n * (x.tdiv n) := by omega
      rw [this, Int.add_mul_emod_self_left]
      exact Int.emod_eq_of_lt (by omega) (by omega))
  have hn0 : ¬ n ≤ 0 := by omega
  have hnz : (n == 0) = false := by rw [beq_eq_false_iff_ne]; omega
  have hne : n ≠ 0 := by omega
  by_cases hneg : r < 0
  · rw [if_pos hneg] at H
    go_enter Try.func35, Try.ntmps35
    go_wp2
    go_ret
    exact ⟨by rw [H.out]; rfl, rfl⟩
  · rw [if_neg hneg] at H
    go_enter Try.func35, Try.ntmps35
    go_wp2
    go_ret
    exact ⟨by rw [H.out]; rfl, rfl⟩

set_option maxRecDepth 100000 in
set_option maxHeartbeats 2000000 in
theorem turns6_any (p d a : Int) (had : Bool) (w : World) (hd : -9223372036854775808 ≤ d) (hd' : d < 9223372036854775808) :
    Calls Try.prog 13 #[.int .i64 p, .int .i64 d, .int .i64 a, .bool had] w fun e w' => e = .returned (.bool true) ∧ Below w.heap.size w w' := by
  obtain ⟨u1, hu1⟩ : ∃ u, vput d = u := ⟨_, rfl⟩
  obtain ⟨u2, hu2⟩ : ∃ u, vturn p d = u := ⟨_, rfl⟩
  obtain ⟨u3, hu3⟩ : ∃ u, vdiff p d = u := ⟨_, rfl⟩
  obtain ⟨u4, hu4⟩ : ∃ u, vpred a d had p (-3) = u := ⟨_, rfl⟩
  have H1 := Lib.hid hu1
  have H2 := Lib.hid hu2
  have H3 := Lib.hid hu3
  have H4 := Lib.hid hu4
  clear hu1 hu2 hu3 hu4
  have b1 : (u1.2 == u1.2) = true := by simp
  have b2 : (u2.1 == u2.1) = true := by simp
  have b3 : (u2.2 == u2.2) = true := by simp
  have b4 : (u3.1 == u3.1) = true := by simp
  have b5 : (u3.2 == u3.2) = true := by simp
  have b6 : (u4.1 == u4.1) = true := by simp
  have b7 : (u4.2 == u4.2) = true := by simp
  go_enter Try.func13, Try.ntmps13
  go_wp2_with fail
  refine (vput_any d w).mono ?_
  rw [H1.out]
  rintro e w' ⟨rfl, rfl⟩
  go_wp2_with fail
  refine (rvput_any d w).mono ?_
  rw [H1.out]
  rintro e w1 ⟨rfl, hb⟩
  have HB1 := Lib.hid hb
  clear hb
  go_wp2_with fail
  refine (vturn_any p d w1 hd hd').mono ?_
  rw [H2.out]
  rintro e w' ⟨rfl, rfl⟩
  go_wp2_with fail
  refine (rvturn_any p d w1 hd hd').mono ?_
  rw [H2.out]
  rintro e w' ⟨rfl, rfl⟩
  go_wp2_with fail
  refine (vdiff_any p d w1).mono ?_
  rw [H3.out]
  rintro e w' ⟨rfl, rfl⟩
  go_wp2_with fail
  refine (rvdiff_any p d w1).mono ?_
  rw [H3.out]
  rintro e w' ⟨rfl, rfl⟩
  go_wp2_with fail
  refine (pred_any a d had p (-3) w1).mono ?_
  rw [H4.out]
  rintro e w' ⟨rfl, rfl⟩
  go_wp2_with fail
  refine (rpred_any a d had p (-3) w1).mono ?_
  rw [H4.out]
  rintro e w' ⟨rfl, rfl⟩
  go_wp2_with fail
  refine (awake6_any w1).mono ?_
  rintro e w' ⟨rfl, hb⟩
  have HB2 := Lib.hid (below_step HB1.out hb)
  clear hb
  go_wp2
  go_ret
  exact ⟨rfl, HB2.out⟩

set_option maxRecDepth 100000 in
set_option maxHeartbeats 2000000 in
theorem one6_any (x y : Int) (w : World) :
    Calls Try.prog 16 #[.int .i64 x, .int .i64 y] w fun e w' => e = .returned (.bool true) ∧ Below w.heap.size w w' := by
  obtain ⟨p, hp⟩ : ∃ p, x % 31 = p := ⟨_, rfl⟩
  obtain ⟨t, ht⟩ : ∃ t, y % 31 = t := ⟨_, rfl⟩
  have hp1 : 0 ≤ p := by omega
  have hp2 : p < 31 := by omega
  have ht1 : 0 ≤ t := by omega
  have ht2 : t < 31 := by omega
  have HP := Lib.hid hp
  have HT := Lib.hid ht
  clear hp ht
  have HPp : Hid (isPart (p - 15) = true) := Lib.hid (by unfold isPart; simp; omega)
  have HTp : Hid (isPart (t - 15) = true) := Lib.hid (by unfold isPart; simp; omega)
  obtain ⟨e0, e1, e2⟩ := diff_in HPp.out HTp.out
  obtain ⟨d0, hd0⟩ : ∃ d0, (vdiff (p - 15) (t - 15)).1 = d0 := ⟨_, rfl⟩
  have H : Hid ((vdiff (p - 15) (t - 15)).1 = d0 ∧ (vdiff (p - 15) (t - 15)).2 = 0) := Lib.hid ⟨hd0, e0⟩
  have HI : Hid (∀ d : Int, -16 ≤ d → d ≤ 15 → ((vturn (p - 15) d).1 = t - 15 ∧ (vturn (p - 15) d).2 = 0 ↔ d = d0)) := Lib.hid (fun d h1 h2 => by rw [← hd0]; exact turn_iff HPp.out HTp.out h1 h2)
  rw [hd0] at e1 e2
  clear hd0 e0
  have e1' : ¬ d0 < -16 := by omega
  have e2' : ¬ 15 < d0 := by omega
  go_enter Try.func16, Try.ntmps16
  go_wp2_with fail
  refine (known6_any w).mono ?_
  rintro e w1 ⟨rfl, hb⟩
  have HB1 := Lib.hid hb
  clear hb
  go_wp2_with fail
  refine (pick_any x 31 w1 (by decide) (by decide)).mono ?_
  rw [HP.out]
  rintro e w' ⟨rfl, rfl⟩
  go_wp2_with fail
  refine (pick_any y 31 w1 (by decide) (by decide)).mono ?_
  rw [HT.out]
  rintro e w' ⟨rfl, rfl⟩
  go_wp2_with fail
  refine (vdiff_any (p - 15) (t - 15) w1).mono ?_
  rw [H.out.1, H.out.2]
  rintro e w' ⟨rfl, rfl⟩
  go_wp2
  go_loop [8] (fun i => ∃ d : Int, -16 ≤ d ∧ d ≤ 16 ∧ i = .int .i64 d) (fun i => (16 - intOf i).toNat)
  case atStart => exact ⟨-16, by omega, by omega, rfl⟩
  case round =>
    obtain ⟨d, h1, h2, rfl⟩ := hrel
    by_cases hlt : d ≤ 15
    · have hcall := vturn_any (p - 15) d w1 (by omega) (by omega)
      obtain ⟨a, b, hab⟩ : ∃ a b, (vturn (p - 15) d).1 = a ∧ (vturn (p - 15) d).2 = b := ⟨_, _, rfl, rfl⟩
      have hi := HI.out d h1 hlt
      rw [hab.1, hab.2] at hi
      have HI2 := Lib.hid hi
      rw [hab.1, hab.2] at hcall
      clear hab hi
      by_cases hd : d = d0
      · obtain ⟨rfl, rfl⟩ := HI2.out.2 hd
        subst hd
        have b1 : (t - 15 == t - 15) = true := by simp
        have b2 : (d == d) = true := by simp
        go_wp2_with fail
        refine hcall.mono ?_
        rintro e w' ⟨rfl, rfl⟩
        go_wp2
        go_round
        case rel => exact ⟨d + 1, by omega, by omega, rfl⟩
        case measure => simp [intOf]; omega
      · have hne : ¬ (a = t - 15 ∧ b = 0) := fun hh => hd (HI2.out.1 hh)
        have b2 : (d == d0) = false := by simpa using hd
        clear hd
        by_cases hb : b = 0
        · subst hb
          have b1 : (a == t - 15) = false := by simp at hne; simpa using hne
          clear hne
          go_wp2_with fail
          refine hcall.mono ?_
          rintro e w' ⟨rfl, rfl⟩
          go_wp2
          go_round
          case rel => exact ⟨d + 1, by omega, by omega, rfl⟩
          case measure => simp [intOf]; omega
        · have b1 : (b == 0) = false := by simpa using hb
          clear hne hb
          go_wp2_with fail
          refine hcall.mono ?_
          rintro e w' ⟨rfl, rfl⟩
          go_wp2
          go_round
          case rel => exact ⟨d + 1, by omega, by omega, rfl⟩
          case measure => simp [intOf]; omega
    · go_wp2
      go_ret
      exact ⟨rfl, HB1.out⟩
end Go.Proofs.Ythjfigaalknoiaa
