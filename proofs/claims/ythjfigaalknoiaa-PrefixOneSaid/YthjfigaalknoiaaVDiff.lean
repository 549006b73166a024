/- The reference's Diff finds the one difference; the laws' helpers of layer 6. -/
import Derived.Test.YthjfigaalknoiaaVRef2
set_option linter.unusedVariables false
set_option linter.unusedSimpArgs false
namespace Go.Proofs.Ythjfigaalknoiaa
open Go.RowKit Go.Proofs.YthjfigaalknoiaaW.PrintWords Pt

set_option maxRecDepth 100000 in
set_option maxHeartbeats 1000000 in
theorem rvdiff_any (p t : Int) (w : World) : Calls Try.prog 60 #[.int .i64 p, .int .i64 t] w fun e w' => e = .returned (.tuple #[.int .i64 (vdiff p t).1, .int .i64 (vdiff p t).2]) ∧ w = w' := by
  cases hp : isPart p with
  | false =>
    have H : Hid (vdiff p t = (0, 3)) := Lib.hid (by unfold vdiff; rw [if_pos (.inl hp)])
    go_enter Try.func60, Try.ntmps60
    go_wp2_with fail
    refine (rpart_any p w).mono ?_
    rintro e w' ⟨rfl, rfl⟩
    rw [hp]
    go_wp2
    go_ret2
    exact ⟨by rw [H.out]; rfl, rfl⟩
  | true =>
    cases ht : isPart t with
    | false =>
      have H : Hid (vdiff p t = (0, 3)) := Lib.hid (by unfold vdiff; rw [if_pos (.inr ht)])
      go_enter Try.func60, Try.ntmps60
      go_wp2_with fail
      refine (rpart_any p w).mono ?_
      rintro e w' ⟨rfl, rfl⟩
      rw [hp]
      go_wp2_with fail
      refine (rpart_any t w).mono ?_
      rintro e w' ⟨rfl, rfl⟩
      rw [ht]
      go_wp2
      go_ret2
      exact ⟨by rw [H.out]; rfl, rfl⟩
    | true =>
      obtain ⟨e0, e1, e2⟩ := diff_in hp ht
      obtain ⟨d0, hd0⟩ : ∃ d0, (vdiff p t).1 = d0 := ⟨_, rfl⟩
      have H : Hid ((vdiff p t).1 = d0 ∧ (vdiff p t).2 = 0) := Lib.hid ⟨hd0, e0⟩
      have HI : Hid (∀ d : Int, -16 ≤ d → d ≤ 15 → ((vturn p d).1 = t ∧ (vturn p d).2 = 0 ↔ d = d0)) := Lib.hid (fun d h1 h2 => by rw [← hd0]; exact turn_iff hp ht h1 h2)
      rw [hd0] at e1 e2
      clear hd0 e0
      go_enter Try.func60, Try.ntmps60
      go_wp2_with fail
      refine (rpart_any p w).mono ?_
      rintro e w' ⟨rfl, rfl⟩
      rw [hp]
      go_wp2_with fail
      refine (rpart_any t w).mono ?_
      rintro e w' ⟨rfl, rfl⟩
      rw [ht]
      clear ht hp
      go_wp2
      go_loop [6] (fun i => ∃ d : Int, -16 ≤ d ∧ d ≤ d0 ∧ i = .int .i64 d) (fun i => (16 - intOf i).toNat)
      case atStart => exact ⟨-16, by omega, e1, rfl⟩
      case round =>
        obtain ⟨d, h1, h2, rfl⟩ := hrel
        have h3 : d ≤ 15 := by omega
        have hcall := rvturn_any p d w (by omega) (by omega)
        obtain ⟨a, b, hab⟩ : ∃ a b, (vturn p d).1 = a ∧ (vturn p d).2 = b := ⟨_, _, rfl, rfl⟩
        have hi := HI.out d h1 h3
        rw [hab.1, hab.2] at hi
        have HI2 := Lib.hid hi
        rw [hab.1, hab.2] at hcall
        clear hab hi
        by_cases hd : d = d0
        · obtain ⟨rfl, rfl⟩ := HI2.out.2 hd
          subst hd
          go_wp2_with fail
          refine hcall.mono ?_
          rintro e w' ⟨rfl, rfl⟩
          go_wp2
          go_ret2
          exact ⟨by rw [H.out.1, H.out.2]; rfl, rfl⟩
        · have hne : ¬ (a = t ∧ b = 0) := fun hh => hd (HI2.out.1 hh)
          have hlt : d < d0 := by omega
          clear hd
          by_cases hb : b = 0
          · subst hb
            have b1 : (a == t) = false := by simp at hne; simpa using hne
            clear hne
            go_wp2_with fail
            refine hcall.mono ?_
            rintro e w' ⟨rfl, rfl⟩
            go_wp2
            go_round
            case rel => exact ⟨d + 1, by omega, by omega, rfl⟩
            case measure => simp [intOf]; omega
          · have b1 : (b == 0) = false := by simpa using hb
            clear hne hb
            go_wp2_with fail
            refine hcall.mono ?_
            rintro e w' ⟨rfl, rfl⟩
            go_wp2
            go_round
            case rel => exact ⟨d + 1, by omega, by omega, rfl⟩
            case measure => simp [intOf]; omega
end Go.Proofs.Ythjfigaalknoiaa
