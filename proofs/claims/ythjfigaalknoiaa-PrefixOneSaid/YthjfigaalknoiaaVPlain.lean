/- vector and its reference, but for Get: part, Turn, Diff, Predict, Put, for every number; what both answer. -/
import Derived.Test.YthjfigaalknoiaaVTree
import Derived.WalkMore
set_option linter.unusedVariables false
set_option linter.unusedSimpArgs false
namespace Go.Proofs.Ythjfigaalknoiaa
open Go.RowKit Go.Proofs.YthjfigaalknoiaaW.PrintWords Pt

def isPart (n : Int) : Bool := decide (-15 ≤ n ∧ n ≤ 15)
def vput (d : Int) : ByteArray × Int := if d < -16 ∨ 15 < d then (⟨#[]⟩, 3) else (vcs.getD (d + 16).toNat ⟨#[]⟩, 0)
def vturn (p d : Int) : Int × Int := if isPart p = false ∨ d < -16 ∨ 15 < d then (0, 3) else if isPart (p + d) then (p + d, 0) else if isPart (p + d + 32) then (p + d + 32, 0) else if isPart (p + d - 32) then (p + d - 32, 0) else (0, 12)
def vdiff (p t : Int) : Int × Int := if isPart p = false ∨ isPart t = false then (0, 3) else ((t - p + 16 + 64) % 32 - 16, 0)
def vpred (a d : Int) (had : Bool) (x y : Int) : Int × Int := if had = false ∨ d ≠ 1 ∨ a = 1 ∨ a = 12 ∨ a = 23 then (0, 0) else (x, y)

theorem part_any (n : Int) (w : World) : Calls Try.prog 94 #[.int .i64 n] w fun e w' => e = .returned (.bool (isPart n)) ∧ w = w' := by
  rcases (by omega : n < -15 ∨ 15 < n ∨ (-15 ≤ n ∧ n ≤ 15)) with h | h | ⟨h, h'⟩
  · have H : Hid (isPart n = false) := Lib.hid (by unfold isPart; simp; omega)
    have h1 : ¬ -15 ≤ n := by omega
    go_enter Try.func94, Try.ntmps94
    go_wp2
    go_ret
    exact ⟨by rw [H.out]; rfl, rfl⟩
  · have H : Hid (isPart n = false) := Lib.hid (by unfold isPart; simp; omega)
    have h1 : -15 ≤ n := by omega
    have h2 : ¬ n ≤ 15 := by omega
    go_enter Try.func94, Try.ntmps94
    go_wp2
    go_ret
    exact ⟨by rw [H.out]; rfl, rfl⟩
  · have H : Hid (isPart n = true) := Lib.hid (by unfold isPart; simp; omega)
    go_enter Try.func94, Try.ntmps94
    go_wp2
    go_ret
    exact ⟨by rw [H.out]; rfl, rfl⟩
theorem rpart_any (n : Int) (w : World) : Calls Try.prog 95 #[.int .i64 n] w fun e w' => e = .returned (.bool (isPart n)) ∧ w = w' := by
  rcases (by omega : n < -15 ∨ 15 < n ∨ (-15 ≤ n ∧ n ≤ 15)) with h | h | ⟨h, h'⟩
  · have H : Hid (isPart n = false) := Lib.hid (by unfold isPart; simp; omega)
    have h1 : ¬ -15 ≤ n := by omega
    go_enter Try.func95, Try.ntmps95
    go_wp2
    go_ret
    exact ⟨by rw [H.out]; rfl, rfl⟩
  · have H : Hid (isPart n = false) := Lib.hid (by unfold isPart; simp; omega)
    have h1 : -15 ≤ n := by omega
    have h2 : ¬ n ≤ 15 := by omega
    go_enter Try.func95, Try.ntmps95
    go_wp2
    go_ret
    exact ⟨by rw [H.out]; rfl, rfl⟩
  · have H : Hid (isPart n = true) := Lib.hid (by unfold isPart; simp; omega)
    go_enter Try.func95, Try.ntmps95
    go_wp2
    go_ret
    exact ⟨by rw [H.out]; rfl, rfl⟩

theorem vput_any (d : Int) (w : World) : Calls Try.prog 55 #[.int .i64 d] w fun e w' => e = .returned (.tuple #[.string (vput d).1, .int .i64 (vput d).2]) ∧ w = w' := by
  rcases (by omega : d < -16 ∨ 15 < d ∨ (-16 ≤ d ∧ d ≤ 15)) with h | h | ⟨h, h'⟩
  · have H : Hid (vput d = (⟨#[]⟩, 3)) := Lib.hid (by unfold vput; rw [if_pos (by omega)])
    go_enter Try.func55, Try.ntmps55
    go_wp2
    go_ret2
    exact ⟨by rw [H.out]; rfl, rfl⟩
  · have H : Hid (vput d = (⟨#[]⟩, 3)) := Lib.hid (by unfold vput; rw [if_pos (by omega)])
    have h1 : ¬ d < -16 := by omega
    go_enter Try.func55, Try.ntmps55
    go_wp2
    go_ret2
    exact ⟨by rw [H.out]; rfl, rfl⟩
  · have H : Hid (vput d = (vcs.getD (d + 16).toNat ⟨#[]⟩, 0)) := Lib.hid (by unfold vput; rw [if_neg (by omega)])
    have h1 : ¬ d < -16 := by omega
    have h2 : ¬ 15 < d := by omega
    go_enter Try.func55, Try.ntmps55
    go_wp2_with fail
    refine (code_at w d h (by omega)).mono ?_
    rintro e w' ⟨rfl, rfl⟩
    go_wp2
    go_ret2
    exact ⟨by rw [H.out]; rfl, rfl⟩

theorem vdiff_any (p t : Int) (w : World) : Calls Try.prog 59 #[.int .i64 p, .int .i64 t] w fun e w' => e = .returned (.tuple #[.int .i64 (vdiff p t).1, .int .i64 (vdiff p t).2]) ∧ w = w' := by
  cases hp : isPart p with
  | false =>
    have H : Hid (vdiff p t = (0, 3)) := Lib.hid (by unfold vdiff; rw [if_pos (.inl hp)])
    go_enter Try.func59, Try.ntmps59
    go_wp2_with fail
    refine (part_any p w).mono ?_
    rintro e w' ⟨rfl, rfl⟩
    rw [hp]
    go_wp2
    go_ret2
    exact ⟨by rw [H.out]; rfl, rfl⟩
  | true =>
    cases ht : isPart t with
    | false =>
      have H : Hid (vdiff p t = (0, 3)) := Lib.hid (by unfold vdiff; rw [if_pos (.inr ht)])
      go_enter Try.func59, Try.ntmps59
      go_wp2_with fail
      refine (part_any p w).mono ?_
      rintro e w' ⟨rfl, rfl⟩
      rw [hp]
      go_wp2_with fail
      refine (part_any t w).mono ?_
      rintro e w' ⟨rfl, rfl⟩
      rw [ht]
      go_wp2
      go_ret2
      exact ⟨by rw [H.out]; rfl, rfl⟩
    | true =>
      have H : Hid (vdiff p t = ((t - p + 16 + 64) % 32 - 16, 0)) := Lib.hid (by unfold vdiff; rw [if_neg (by rw [hp, ht]; simp)])
      have hp2 : -15 ≤ p ∧ p ≤ 15 := by unfold isPart at hp; simpa using hp
      have ht2 : -15 ≤ t ∧ t ≤ 15 := by unfold isPart at ht; simpa using ht
      obtain ⟨q1, q2⟩ := hp2
      obtain ⟨q3, q4⟩ := ht2
      go_enter Try.func59, Try.ntmps59
      go_wp2_with fail
      refine (part_any p w).mono ?_
      rintro e w' ⟨rfl, rfl⟩
      rw [hp]
      go_wp2_with fail
      refine (part_any t w).mono ?_
      rintro e w' ⟨rfl, rfl⟩
      rw [ht]
      have hm : (t - p + 16 + 64).tmod 32 = (t - p + 16 + 64) % 32 := Int.tmod_eq_emod_of_nonneg (by omega)
      have hb : -16 ≤ (t - p + 16 + 64) % 32 - 16 := by omega
      have hb2 : (t - p + 16 + 64) % 32 - 16 ≤ 15 := by omega
      go_wp2
      go_ret2
      refine ⟨?_, rfl⟩
      rw [H.out]
      simp

theorem turn_iff {p t d : Int} (hp : isPart p = true) (ht : isPart t = true) (h1 : -16 ≤ d) (h2 : d ≤ 15) : (vturn p d).1 = t ∧ (vturn p d).2 = 0 ↔ d = (vdiff p t).1 := by
  have hd : vdiff p t = ((t - p + 16 + 64) % 32 - 16, 0) := by unfold vdiff; rw [if_neg (by rw [hp, ht]; simp)]
  rw [hd]
  unfold vturn
  rw [if_neg (by rw [hp]; simp; omega)]
  unfold isPart at *
  simp at hp ht
  simp only [decide_eq_true_eq]
  split
  · simp; omega
  · split
    · simp; omega
    · split
      · simp; omega
      · simp; omega
theorem diff_in {p t : Int} (hp : isPart p = true) (ht : isPart t = true) : (vdiff p t).2 = 0 ∧ -16 ≤ (vdiff p t).1 ∧ (vdiff p t).1 ≤ 15 := by
  have hd : vdiff p t = ((t - p + 16 + 64) % 32 - 16, 0) := by unfold vdiff; rw [if_neg (by rw [hp, ht]; simp)]
  rw [hd]
  refine ⟨rfl, ?_, ?_⟩ <;> simp <;> omega

set_option maxRecDepth 100000 in
set_option maxHeartbeats 1000000 in
theorem vturn_any (p d : Int) (w : World) (hd : -9223372036854775808 ≤ d) (hd' : d < 9223372036854775808) : Calls Try.prog 57 #[.int .i64 p, .int .i64 d] w fun e w' => e = .returned (.tuple #[.int .i64 (vturn p d).1, .int .i64 (vturn p d).2]) ∧ w = w' := by
  cases hp : isPart p with
  | false =>
    have H : Hid (vturn p d = (0, 3)) := Lib.hid (by unfold vturn; rw [if_pos (.inl hp)])
    go_enter Try.func57, Try.ntmps57
    go_wp2
    go_step3
    go_wp2_with fail
    refine (part_any p w).mono ?_
    rintro e w' ⟨rfl, rfl⟩
    rw [hp]
    go_wp2
    (try rw [Exit.noGoto_ret]); go_ret2
    exact ⟨by rw [H.out]; rfl, rfl⟩
  | true =>
    rcases (by omega : d < -16 ∨ 15 < d ∨ (-16 ≤ d ∧ d ≤ 15)) with h | h | ⟨h, h'⟩
    · have H : Hid (vturn p d = (0, 3)) := Lib.hid (by unfold vturn; rw [if_pos (by omega)])
      go_enter Try.func57, Try.ntmps57
      go_wp2
      go_step3
      go_wp2_with fail
      refine (part_any p w).mono ?_
      rintro e w' ⟨rfl, rfl⟩
      rw [hp]
      go_wp2
      (try rw [Exit.noGoto_ret]); go_ret2
      exact ⟨by rw [H.out]; rfl, rfl⟩
    · have H : Hid (vturn p d = (0, 3)) := Lib.hid (by unfold vturn; rw [if_pos (by omega)])
      have h1 : ¬ d < -16 := by omega
      go_enter Try.func57, Try.ntmps57
      go_wp2
      go_step3
      go_wp2_with fail
      refine (part_any p w).mono ?_
      rintro e w' ⟨rfl, rfl⟩
      rw [hp]
      go_wp2
      (try rw [Exit.noGoto_ret]); go_ret2
      exact ⟨by rw [H.out]; rfl, rfl⟩
    · have H : Hid (vturn p d = if isPart (p + d) then (p + d, 0) else if isPart (p + d + 32) then (p + d + 32, 0) else if isPart (p + d - 32) then (p + d - 32, 0) else (0, 12)) := Lib.hid (by unfold vturn; rw [if_neg (by rw [hp]; simp; omega)])
      have hp2 : -15 ≤ p ∧ p ≤ 15 := by unfold isPart at hp; simpa using hp
      obtain ⟨q1, q2⟩ := hp2
      have h1 : ¬ d < -16 := by omega
      have h2 : ¬ 15 < d := by omega
      have i0 : (Instr.index 117 (.agg #[.int .i64 0, .int .i64 32, .int .i64 (-32)]) (.int .i64 0)).run Try.prog w = .ok (.int .i64 0) w := by kernel_rfl
      have i1 : (Instr.index 117 (.agg #[.int .i64 0, .int .i64 32, .int .i64 (-32)]) (.int .i64 1)).run Try.prog w = .ok (.int .i64 32) w := by kernel_rfl
      have i2 : (Instr.index 117 (.agg #[.int .i64 0, .int .i64 32, .int .i64 (-32)]) (.int .i64 2)).run Try.prog w = .ok (.int .i64 (-32)) w := by kernel_rfl
      go_enter Try.func57, Try.ntmps57
      go_wp2
      go_step3
      go_wp2_with fail
      refine (part_any p w).mono ?_
      rintro e w' ⟨rfl, rfl⟩
      rw [hp]
      go_wp2
      go_step3
      go_wp2
      go_loop [6, 7, 23] (fun o e i => o = .int .i64 0 ∧ e = .int .i64 12 ∧ (i = .int .i64 0 ∨ (i = .int .i64 1 ∧ isPart (p + d) = false) ∨ (i = .int .i64 2 ∧ isPart (p + d) = false ∧ isPart (p + d + 32) = false) ∨ (i = .int .i64 3 ∧ isPart (p + d) = false ∧ isPart (p + d + 32) = false ∧ isPart (p + d - 32) = false))) (fun _ _ i => 3 - (intOf i).toNat)
      case atStart => exact ⟨rfl, rfl, .inl rfl⟩
      case round =>
        obtain ⟨rfl, rfl, rfl | ⟨rfl, g1⟩ | ⟨rfl, g1, g2⟩ | ⟨rfl, g1, g2, g3⟩⟩ := hrel
        · cases hs : isPart (p + d) with
          | true =>
            go_wp2_with fail
            refine (part_any _ w).mono ?_
            rintro e w' ⟨rfl, rfl⟩
            rw [hs]
            go_wp2
            (try rw [Exit.noGoto_ret]); go_ret2
            exact ⟨by rw [H.out, hs]; rfl, rfl⟩
          | false =>
            go_wp2_with fail
            refine (part_any _ w).mono ?_
            rintro e w' ⟨rfl, rfl⟩
            rw [hs]
            go_wp2
            go_round
            case rel => exact ⟨rfl, rfl, .inr (.inl ⟨rfl, by first | trivial | exact hs⟩)⟩
            case measure => simp [intOf]
        · cases hs : isPart (p + d + 32) with
          | true =>
            go_wp2_with fail
            refine (part_any _ w).mono ?_
            rintro e w' ⟨rfl, rfl⟩
            rw [hs]
            go_wp2
            (try rw [Exit.noGoto_ret]); go_ret2
            exact ⟨by rw [H.out, g1, hs]; rfl, rfl⟩
          | false =>
            go_wp2_with fail
            refine (part_any _ w).mono ?_
            rintro e w' ⟨rfl, rfl⟩
            rw [hs]
            go_wp2
            go_round
            case rel => exact ⟨rfl, rfl, .inr (.inr (.inl ⟨rfl, by first | trivial | exact g1 | simp [*], by first | trivial | exact hs⟩))⟩
            case measure => simp [intOf]
        · cases hs : isPart (p + d - 32) with
          | true =>
            go_wp2_with fail
            refine (part_any _ w).mono ?_
            rintro e w' ⟨rfl, rfl⟩
            rw [show p + d + -32 = p + d - 32 from rfl, hs]
            go_wp2
            (try rw [Exit.noGoto_ret]); go_ret2
            exact ⟨by rw [H.out, g1, g2, hs]; rfl, rfl⟩
          | false =>
            go_wp2_with fail
            refine (part_any _ w).mono ?_
            rintro e w' ⟨rfl, rfl⟩
            rw [show p + d + -32 = p + d - 32 from rfl, hs]
            go_wp2
            go_round
            case rel => exact ⟨rfl, rfl, .inr (.inr (.inr ⟨rfl, by first | trivial | exact g1 | simp [*], by first | trivial | exact g2 | simp [*], by first | trivial | exact hs⟩))⟩
            case measure => simp [intOf]
        · go_wp2
          (try rw [Exit.noGoto_ret]); go_ret2
          exact ⟨by rw [H.out, g1, g2, g3]; rfl, rfl⟩
end Go.Proofs.Ythjfigaalknoiaa
