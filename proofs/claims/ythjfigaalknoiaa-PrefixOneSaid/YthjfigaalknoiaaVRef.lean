/- vector's Get and Predict, and the reference's every function: what each answers. -/
import Derived.Test.YthjfigaalknoiaaVPlain
set_option linter.unusedVariables false
set_option linter.unusedSimpArgs false
namespace Go.Proofs.Ythjfigaalknoiaa
open Go.RowKit Go.Proofs.YthjfigaalknoiaaW.PrintWords Pt

theorem vget_any (A : Option Addr) (nn cc : Nat) (bs : List Int) (i : Int) (w : World) (hB : Bytes w A nn bs) (h63 : i < 9223372036854775808) :
    Calls Try.prog 53 #[.slice A nn cc, .int .i64 i] w fun e w' => e = .returned (.tuple #[.int .i64 (ansAt vcs vns bs nn i).v, .int .i64 (ansAt vcs vns bs nn i).n, .int .i64 (ansAt vcs vns bs nn i).e]) ∧ Below w.heap.size w w' := by
  have HB := Lib.hid hB
  clear hB
  go_enter Try.func53, Try.ntmps53
  go_wp2_with fail
  refine (vtree_any w).mono ?_
  rintro e w1 ⟨p, rfl, hb, ht⟩
  have HT := Lib.hid ht
  have HB1 := Lib.hid hb
  clear hb ht
  go_wp2_with fail
  refine (tr_get A nn cc bs i w1 HT.out (HB.out.below HB1.out) h63).mono ?_
  rintro e w2 ⟨rfl, hb⟩
  have HB2 := Lib.hid (below_step HB1.out hb)
  clear hb
  simp only []
  go_wp2
  go_ret3
  exact ⟨rfl, HB2.out⟩

set_option maxRecDepth 100000 in
theorem pred_any (a d : Int) (had : Bool) (x y : Int) (w : World) : Calls Try.prog 61 #[.int .i64 a, .int .i64 d, .bool had, .int .i64 x, .int .i64 y] w fun e w' => e = .returned (.tuple #[.int .i64 (vpred a d had x y).1, .int .i64 (vpred a d had x y).2]) ∧ w = w' := by
  cases had with
  | false =>
    go_enter Try.func61, Try.ntmps61
    go_wp2
    go_ret2
    exact ⟨by unfold vpred; rw [if_pos (by simp)]; rfl, rfl⟩
  | true =>
    by_cases hd : d = 1
    · subst hd
      by_cases h1 : a = 1
      · subst h1
        go_enter Try.func61, Try.ntmps61
        go_wp2
        go_ret2
        exact ⟨by unfold vpred; rw [if_pos (by simp)]; rfl, rfl⟩
      · by_cases h2 : a = 12
        · subst h2
          go_enter Try.func61, Try.ntmps61
          go_wp2
          go_ret2
          exact ⟨by unfold vpred; rw [if_pos (by simp)]; rfl, rfl⟩
        · by_cases h3 : a = 23
          · subst h3
            go_enter Try.func61, Try.ntmps61
            go_wp2
            go_ret2
            exact ⟨by unfold vpred; rw [if_pos (by simp)]; rfl, rfl⟩
          · have H : Hid (vpred a 1 true x y = (x, y)) := Lib.hid (by unfold vpred; rw [if_neg (by simp; omega)])
            have b1 : (a == 1) = false := by simpa using h1
            have b2 : (a == 12) = false := by simpa using h2
            have b3 : (a == 23) = false := by simpa using h3
            clear h1 h2 h3
            go_enter Try.func61, Try.ntmps61
            go_wp2
            go_ret2
            exact ⟨by rw [H.out]; rfl, rfl⟩
    · have H : Hid (vpred a d true x y = (0, 0)) := Lib.hid (by unfold vpred; rw [if_pos (by simp [hd])])
      have b1 : (d != 1) = true := by simpa using hd
      clear hd
      go_enter Try.func61, Try.ntmps61
      go_wp2
      go_ret2
      exact ⟨by rw [H.out]; rfl, rfl⟩
set_option maxRecDepth 100000 in
theorem rpred_any (a d : Int) (had : Bool) (x y : Int) (w : World) : Calls Try.prog 62 #[.int .i64 a, .int .i64 d, .bool had, .int .i64 x, .int .i64 y] w fun e w' => e = .returned (.tuple #[.int .i64 (vpred a d had x y).1, .int .i64 (vpred a d had x y).2]) ∧ w = w' := by
  by_cases h1 : a = 1
  · subst h1
    go_enter Try.func62, Try.ntmps62
    go_wp2
    go_ret2
    exact ⟨by unfold vpred; rw [if_pos (by simp)]; rfl, rfl⟩
  · by_cases h2 : a = 12
    · subst h2
      go_enter Try.func62, Try.ntmps62
      go_wp2
      go_ret2
      exact ⟨by unfold vpred; rw [if_pos (by simp)]; rfl, rfl⟩
    · by_cases h3 : a = 23
      · subst h3
        go_enter Try.func62, Try.ntmps62
        go_wp2
        go_ret2
        exact ⟨by unfold vpred; rw [if_pos (by simp)]; rfl, rfl⟩
      · by_cases hd : d = 1
        · subst hd
          have H : Hid (vpred a 1 true x y = (x, y)) := Lib.hid (by unfold vpred; rw [if_neg (by simp; omega)])
          have H2 : Hid (vpred a 1 false x y = (0, 0)) := Lib.hid (by unfold vpred; rw [if_pos (by simp)])
          have b1 : (a == 1) = false := by simpa using h1
          have b2 : (a == 12) = false := by simpa using h2
          have b3 : (a == 23) = false := by simpa using h3
          clear h1 h2 h3
          cases had with
          | false =>
            go_enter Try.func62, Try.ntmps62
            go_wp2
            go_ret2
            exact ⟨by rw [H2.out]; rfl, rfl⟩
          | true =>
            go_enter Try.func62, Try.ntmps62
            go_wp2
            go_ret2
            exact ⟨by rw [H.out]; rfl, rfl⟩
        · have H : Hid (vpred a d had x y = (0, 0)) := Lib.hid (by unfold vpred; rw [if_pos (by simp [hd])])
          have b1 : (a == 1) = false := by simpa using h1
          have b2 : (a == 12) = false := by simpa using h2
          have b3 : (a == 23) = false := by simpa using h3
          have b4 : (d != 1) = true := by simpa using hd
          clear h1 h2 h3 hd
          go_enter Try.func62, Try.ntmps62
          go_wp2
          go_ret2
          exact ⟨by rw [H.out]; rfl, rfl⟩

/-! The reference. -/
theorem codes91 (w : World) : Calls Try.prog 91 #[] w fun e w' => e = .returned (.slice (some ⟨w.heap.size, 0, none⟩) 32 32) ∧ w.alloc (.cells (vcs.map Value.string).toArray 9) = w' := by
  go_enter Try.func91, Try.ntmps91
  go_wp2
  go_ret
  exact ⟨rfl, by rfl⟩
theorem codes_row (w : World) : Kd.string.C (w.alloc (.cells (vcs.map Value.string).toArray 9)) (some ⟨w.heap.size, 0, none⟩) 32 vcs := C_str (at_alloc _ _ rfl) vcs (by simp) (by decide)

theorem rvput_any (d : Int) (w : World) : Calls Try.prog 56 #[.int .i64 d] w fun e w' => e = .returned (.tuple #[.string (vput d).1, .int .i64 (vput d).2]) ∧ Below w.heap.size w w' := by
  rcases (by omega : d < -16 ∨ 15 < d ∨ (-16 ≤ d ∧ d ≤ 15)) with h | h | ⟨h, h'⟩
  · have H : Hid (vput d = (⟨#[]⟩, 3)) := Lib.hid (by unfold vput; rw [if_pos (by omega)])
    go_enter Try.func56, Try.ntmps56
    go_wp2
    go_ret2
    exact ⟨by rw [H.out]; rfl, Below.refl _ _⟩
  · have H : Hid (vput d = (⟨#[]⟩, 3)) := Lib.hid (by unfold vput; rw [if_pos (by omega)])
    have h1 : ¬ d < -16 := by omega
    go_enter Try.func56, Try.ntmps56
    go_wp2
    go_ret2
    exact ⟨by rw [H.out]; rfl, Below.refl _ _⟩
  · obtain ⟨k, rfl⟩ : ∃ k : Nat, d = (k : Int) - 16 := ⟨(d + 16).toNat, by omega⟩
    have hk : k < 32 := by omega
    have H : Hid (vput ((k : Int) - 16) = (vcs.getD k ⟨#[]⟩, 0)) := Lib.hid (by unfold vput; rw [if_neg (by omega), show ((k : Int) - 16 + 16).toNat = k by omega])
    have h1 : ¬ (k : Int) - 16 < -16 := by omega
    have h2 : ¬ 15 < (k : Int) - 16 := by omega
    obtain ⟨c, hcc⟩ : ∃ c, vcs.getD k ⟨#[]⟩ = c := ⟨_, rfl⟩
    rw [hcc] at H
    have hkc := vcs_at k hk
    rw [hcc] at hkc
    have HKC := Lib.hid hkc
    clear hcc hkc
    go_enter Try.func56, Try.ntmps56
    go_wp2_with fail
    refine (codes91 w).mono ?_
    rintro e w' ⟨rfl, hw'⟩
    have hc : w'.cell? ⟨w.heap.size, k, none⟩ = some (.string c) := by
      rw [← hw', cell_of_heap (at_alloc _ _ rfl), List.getElem?_toArray, List.getElem?_map, HKC.out]; rfl
    have HBl : Hid (Below w.heap.size w w') := Lib.hid (by rw [← hw']; exact below_alloc (Below.refl _ _) _)
    clear hw'
    have hi : (k : Int) - 16 + 16 = (k : Int) := by omega
    have hi2 : (k : Int) < 32 := by omega
    go_wp2
    go_ret2
    exact ⟨by rw [H.out]; rfl, HBl.out⟩
end Go.Proofs.Ythjfigaalknoiaa
