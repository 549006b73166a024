/- The small functions of layer 6's statements; the chapter's examples. -/
import Derived.Test.YthjfigaalknoiaaVDiff
set_option linter.unusedVariables false
set_option linter.unusedSimpArgs false
namespace Go.Proofs.Ythjfigaalknoiaa
open Go.RowKit Go.Proofs.YthjfigaalknoiaaW.PrintWords Pt

theorem gets6_yes (A : Option Addr) (nn cc : Nat) (bs : List Int) (want size err : Int) (w : World) (hB : Bytes w A nn bs)
    (h1 : (ansAt vcs vns bs nn 0).v = want) (h2 : (ansAt vcs vns bs nn 0).n = size) (h3 : (ansAt vcs vns bs nn 0).e = err) :
    Calls Try.prog 63 #[.int .i64 want, .int .i64 size, .int .i64 err, .slice A nn cc] w fun e w' => e = .returned (.bool true) ∧ Below w.heap.size w w' := by
  have HB := Lib.hid hB
  have H1 := Lib.hid h1
  have H2 := Lib.hid h2
  have H3 := Lib.hid h3
  clear hB h1 h2 h3
  have b1 : (want == want) = true := by simp
  have b2 : (size == size) = true := by simp
  have b3 : (err == err) = true := by simp
  go_enter Try.func63, Try.ntmps63
  go_wp2_with fail
  refine (vget_any A nn cc bs 0 w HB.out (by decide)).mono ?_
  rw [H1.out, H2.out, H3.out]
  rintro e w' ⟨rfl, hb⟩
  have HBb := Lib.hid hb
  clear hb
  go_wp2
  go_ret
  exact ⟨rfl, HBb.out⟩

theorem puts6_yes (d : Int) (want : ByteArray) (w : World) (h : vput d = (want, 0)) :
    Calls Try.prog 64 #[.int .i64 d, .string want] w fun e w' => e = .returned (.bool true) ∧ w = w' := by
  have H := Lib.hid h
  clear h
  go_enter Try.func64, Try.ntmps64
  go_wp2_with fail
  refine (vput_any d w).mono ?_
  rw [H.out]
  rintro e w' ⟨rfl, rfl⟩
  go_wp2
  go_ret
  exact ⟨rfl, rfl⟩

theorem turns6_yes (p d want err : Int) (w : World) (hd : -9223372036854775808 ≤ d) (hd' : d < 9223372036854775808) (h : vturn p d = (want, err)) :
    Calls Try.prog 65 #[.int .i64 p, .int .i64 d, .int .i64 want, .int .i64 err] w fun e w' => e = .returned (.bool true) ∧ w = w' := by
  have H := Lib.hid h
  clear h
  have b1 : (want == want) = true := by simp
  have b3 : (err == err) = true := by simp
  go_enter Try.func65, Try.ntmps65
  go_wp2_with fail
  refine (vturn_any p d w hd hd').mono ?_
  rw [H.out]
  rintro e w' ⟨rfl, rfl⟩
  go_wp2
  go_ret
  exact ⟨rfl, rfl⟩

theorem diffs6_yes (p t want : Int) (w : World) (h : vdiff p t = (want, 0)) :
    Calls Try.prog 66 #[.int .i64 p, .int .i64 t, .int .i64 want] w fun e w' => e = .returned (.bool true) ∧ w = w' := by
  have H := Lib.hid h
  clear h
  have b1 : (want == want) = true := by simp
  go_enter Try.func66, Try.ntmps66
  go_wp2_with fail
  refine (vdiff_any p t w).mono ?_
  rw [H.out]
  rintro e w' ⟨rfl, rfl⟩
  go_wp2
  go_ret
  exact ⟨rfl, rfl⟩

theorem awake6_any (w : World) : Calls Try.prog 52 #[] w fun e w' => e = .returned (.bool true) ∧ Below w.heap.size w w' := by
  have HC0 := Lib.hid (Below.refl w.heap.size w)
  go_enter Try.func52, Try.ntmps52
  go_wp2_with fail
  refine (gets6_yes _ 1 1 [96] (-1) 3 0 _ (Bytes_lit (t := 5) (cur := #[.int .u8 96]) (at_alloc _ _ rfl) [96] rfl (by decide) (by decide)) (by decide +kernel) (by decide +kernel) (by decide +kernel)).mono ?_
  rintro e w' ⟨rfl, hb⟩
  have HC1 := Lib.hid (below_step (below_alloc HC0.out _) hb)
  clear hb
  go_wp2_with fail
  refine (gets6_yes _ 2 2 [3, 32] (-16) 11 0 _ (Bytes_lit (t := 5) (cur := #[.int .u8 3, .int .u8 32]) (at_alloc _ _ rfl) [3, 32] rfl (by decide) (by decide)) (by decide +kernel) (by decide +kernel) (by decide +kernel)).mono ?_
  rintro e w' ⟨rfl, hb⟩
  have HC2 := Lib.hid (below_step (below_alloc HC1.out _) hb)
  clear hb
  go_wp2_with fail
  refine (puts6_yes 15 ⟨#[48, 48, 48, 48, 48, 48, 49, 49, 48, 49, 48]⟩ _ (by decide +kernel)).mono ?_
  rintro e w' ⟨rfl, hw⟩
  subst hw
  go_wp2_with fail
  refine (turns6_yes 10 10 (-12) 0 _ (by decide) (by decide) (by decide +kernel)).mono ?_
  rintro e w' ⟨rfl, hw⟩
  subst hw
  go_wp2_with fail
  refine (diffs6_yes 10 (-12) 10 _ (by decide +kernel)).mono ?_
  rintro e w' ⟨rfl, hw⟩
  subst hw
  go_wp2
  go_ret
  exact ⟨rfl, HC2.out⟩

set_option maxRecDepth 100000 in
set_option maxHeartbeats 4000000 in
theorem known6_any (w : World) : Calls Try.prog 14 #[] w fun e w' => e = .returned (.bool true) ∧ Below w.heap.size w w' := by
  have HC0 := Lib.hid (Below.refl w.heap.size w)
  go_enter Try.func14, Try.ntmps14
  go_wp2_with fail
  refine (vput_any 16 w).mono ?_
  rw [show vput 16 = (⟨#[]⟩, 3) from by decide]
  rintro e w' ⟨rfl, hw⟩
  subst hw
  go_wp2_with fail
  refine (gets6_yes _ 1 1 [128] 0 1 0 _ (Bytes_lit (t := 5) (cur := #[.int .u8 128]) (at_alloc _ _ rfl) [128] rfl (by decide) (by decide)) (by decide +kernel) (by decide +kernel) (by decide +kernel)).mono ?_
  rintro e w' ⟨rfl, hb⟩
  have HC3 := Lib.hid (below_step (below_alloc HC0.out _) hb)
  clear hb
  go_wp2_with fail
  refine (gets6_yes _ 1 1 [64] 1 3 0 _ (Bytes_lit (t := 5) (cur := #[.int .u8 64]) (at_alloc _ _ rfl) [64] rfl (by decide) (by decide)) (by decide +kernel) (by decide +kernel) (by decide +kernel)).mono ?_
  rintro e w' ⟨rfl, hb⟩
  have HC4 := Lib.hid (below_step (below_alloc HC3.out _) hb)
  clear hb
  go_wp2_with fail
  refine (gets6_yes _ 2 2 [0, 255] 0 0 7 _ (Bytes_lit (t := 5) (cur := #[.int .u8 0, .int .u8 255]) (at_alloc _ _ rfl) [0, 255] rfl (by decide) (by decide)) (by decide +kernel) (by decide +kernel) (by decide +kernel)).mono ?_
  rintro e w' ⟨rfl, hb⟩
  have HC5 := Lib.hid (below_step (below_alloc HC4.out _) hb)
  clear hb
  go_wp2_with fail
  refine (gets6_yes _ 1 1 [3] 0 0 5 _ (Bytes_lit (t := 5) (cur := #[.int .u8 3]) (at_alloc _ _ rfl) [3] rfl (by decide) (by decide)) (by decide +kernel) (by decide +kernel) (by decide +kernel)).mono ?_
  rintro e w' ⟨rfl, hb⟩
  have HC6 := Lib.hid (below_step (below_alloc HC5.out _) hb)
  clear hb
  go_wp2_with fail
  refine (puts6_yes 0 ⟨#[49]⟩ _ (by decide +kernel)).mono ?_
  rintro e w' ⟨rfl, hw⟩
  subst hw
  go_wp2_with fail
  refine (puts6_yes (-16) ⟨#[48, 48, 48, 48, 48, 48, 49, 49, 48, 48, 49]⟩ _ (by decide +kernel)).mono ?_
  rintro e w' ⟨rfl, hw⟩
  subst hw
  go_wp2_with fail
  refine (turns6_yes 0 5 5 0 _ (by decide) (by decide) (by decide +kernel)).mono ?_
  rintro e w' ⟨rfl, hw⟩
  subst hw
  go_wp2_with fail
  refine (turns6_yes (-10) (-10) 12 0 _ (by decide) (by decide) (by decide +kernel)).mono ?_
  rintro e w' ⟨rfl, hw⟩
  subst hw
  go_wp2_with fail
  refine (turns6_yes 0 (-16) 0 12 _ (by decide) (by decide) (by decide +kernel)).mono ?_
  rintro e w' ⟨rfl, hw⟩
  subst hw
  go_wp2_with fail
  refine (turns6_yes 1 (-16) (-15) 0 _ (by decide) (by decide) (by decide +kernel)).mono ?_
  rintro e w' ⟨rfl, hw⟩
  subst hw
  go_wp2_with fail
  refine (turns6_yes (-1) (-16) 15 0 _ (by decide) (by decide) (by decide +kernel)).mono ?_
  rintro e w' ⟨rfl, hw⟩
  subst hw
  go_wp2_with fail
  refine (turns6_yes 16 0 0 3 _ (by decide) (by decide) (by decide +kernel)).mono ?_
  rintro e w' ⟨rfl, hw⟩
  subst hw
  go_wp2_with fail
  refine (pred_any 5 1 true 2 (-3) _).mono ?_
  rw [show vpred 5 1 true 2 (-3) = (2, -3) from by decide]
  rintro e w' ⟨rfl, hw⟩
  subst hw
  go_wp2_with fail
  refine (pred_any 12 1 true 2 (-3) _).mono ?_
  rw [show vpred 12 1 true 2 (-3) = (0, 0) from by decide]
  rintro e w' ⟨rfl, hw⟩
  subst hw
  go_wp2_with fail
  refine (pred_any 5 2 true 2 (-3) _).mono ?_
  rw [show vpred 5 2 true 2 (-3) = (0, 0) from by decide]
  rintro e w' ⟨rfl, hw⟩
  subst hw
  go_wp2_with fail
  refine (pred_any 5 1 false 2 (-3) _).mono ?_
  rw [show vpred 5 1 false 2 (-3) = (0, 0) from by decide]
  rintro e w' ⟨rfl, hw⟩
  subst hw
  go_wp2_with fail
  refine (awake6_any _).mono ?_
  rintro e w' ⟨rfl, hb⟩
  have HD := Lib.hid (below_step HC6.out hb)
  clear hb
  go_wp2_with fail
  refine (diffs6_yes (-15) 15 (-2) _ (by decide +kernel)).mono ?_
  rintro e w' ⟨rfl, hw⟩
  subst hw
  go_wp2_with fail
  refine (diffs6_yes 15 (-15) 2 _ (by decide +kernel)).mono ?_
  rintro e w' ⟨rfl, hw⟩
  subst hw
  go_wp2_with fail
  refine (diffs6_yes 3 3 0 _ (by decide +kernel)).mono ?_
  rintro e w' ⟨rfl, hw⟩
  subst hw
  go_wp2
  go_ret
  exact ⟨rfl, HD.out⟩
end Go.Proofs.Ythjfigaalknoiaa
