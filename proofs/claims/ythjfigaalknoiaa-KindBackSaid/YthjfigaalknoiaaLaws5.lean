/- The small functions of layer 5's statements; the chapter's examples. -/
import Derived.Test.YthjfigaalknoiaaKOf
import Derived.Test.YthjfigaalknoiaaKEq
set_option linter.unusedVariables false
set_option linter.unusedSimpArgs false
namespace Go.Proofs.Ythjfigaalknoiaa
open Go.RowKit Go.Proofs.YthjfigaalknoiaaW.PrintWords Pt

theorem kget_any (A : Option Addr) (nn cc : Nat) (bs : List Int) (i : Int) (w : World) (hB : Bytes w A nn bs) (h63 : i < 9223372036854775808) :
    Calls Try.prog 39 #[.slice A nn cc, .int .i64 i] w fun e w' => e = .returned (.tuple #[.int .i64 (ansAt kcs kns bs nn i).v, .int .i64 (ansAt kcs kns bs nn i).n, .int .i64 (ansAt kcs kns bs nn i).e]) ∧ Below w.heap.size w w' := by
  have HB := Lib.hid hB
  clear hB
  go_enter Try.func39, Try.ntmps39
  go_wp2_with fail
  refine (ktree_any w).mono ?_
  rintro e w1 ⟨p, rfl, hb, ht⟩
  have HT := Lib.hid ht
  have HB1 := Lib.hid hb
  clear hb ht
  go_wp2_with fail
  refine (tr_get A nn cc bs i w1 HT.out (HB.out.below HB1.out) h63).mono ?_
  rintro e w2 ⟨rfl, hb⟩
  have HB2 := Lib.hid (below_step HB1.out hb)
  clear hb
  simp only []
  go_wp2
  go_ret3
  exact ⟨rfl, HB2.out⟩
theorem kput_any (n : Int) (w : World) : Calls Try.prog 42 #[.int .i64 n] w fun e w' => e = .returned (.tuple #[.string (rlook kcs kns n).1, .int .i64 (rlook kcs kns n).2]) ∧ Below w.heap.size w w' := by
  go_enter Try.func42, Try.ntmps42
  go_wp2_with fail
  refine (ktree_any w).mono ?_
  rintro e w1 ⟨p, rfl, hb, ht⟩
  have HT := Lib.hid ht
  have HB1 := Lib.hid hb
  clear hb ht
  have HL := Lib.hid (told_look kcs kns n)
  go_wp2_with fail
  refine (tr_put n w1 HT.out).mono ?_
  rw [HL.out.1, HL.out.2]
  rintro e w2 ⟨rfl, hb⟩
  have HB2 := Lib.hid (below_step HB1.out hb)
  clear hb
  go_wp2
  go_ret2
  exact ⟨rfl, HB2.out⟩

theorem bcell {W w1 : World} (hb : Below W.heap.size W w1) : (∀ b o, b < W.heap.size → w1.cell? ⟨b, o, none⟩ = W.cell? ⟨b, o, none⟩) ∧ (∀ b o, b < W.heap.size → w1.frozen? ⟨b, o, none⟩ = W.frozen? ⟨b, o, none⟩) :=
  ⟨fun b o h => hb.cell (p := ⟨b, o, none⟩) h, fun b o h => hb.frozen (p := ⟨b, o, none⟩) h⟩
theorem gets5_yes (A : Option Addr) (nn cc : Nat) (bs : List Int) (want size err : Int) (w : World) (hB : Bytes w A nn bs)
    (h1 : (ansAt kcs kns bs nn 0).v = want) (h2 : (ansAt kcs kns bs nn 0).n = size) (h3 : (ansAt kcs kns bs nn 0).e = err) :
    Calls Try.prog 46 #[.int .i64 want, .int .i64 size, .int .i64 err, .slice A nn cc] w fun e w' => e = .returned (.bool true) ∧ Below w.heap.size w w' := by
  have HB := Lib.hid hB
  have H1 := Lib.hid h1
  have H2 := Lib.hid h2
  have H3 := Lib.hid h3
  clear hB h1 h2 h3
  have b1 : (want == want) = true := by simp
  have b2 : (size == size) = true := by simp
  have b3 : (err == err) = true := by simp
  go_enter Try.func46, Try.ntmps46
  go_wp2_with fail
  refine (kget_any A nn cc bs 0 w HB.out (by decide)).mono ?_
  rw [H1.out, H2.out, H3.out]
  rintro e w' ⟨rfl, hb⟩
  have HBb := Lib.hid hb
  clear hb
  go_wp2
  go_ret
  exact ⟨rfl, HBb.out⟩
theorem puts5_yes (n : Int) (want : ByteArray) (err : Int) (w : World) (h : rlook kcs kns n = (want, err)) :
    Calls Try.prog 47 #[.int .i64 n, .string want, .int .i64 err] w fun e w' => e = .returned (.bool true) ∧ Below w.heap.size w w' := by
  have H := Lib.hid h
  clear h
  have b3 : (err == err) = true := by simp
  go_enter Try.func47, Try.ntmps47
  go_wp2_with fail
  refine (kput_any n w).mono ?_
  rw [H.out]
  rintro e w' ⟨rfl, hb⟩
  have HBb := Lib.hid hb
  clear hb
  go_wp2
  go_ret
  exact ⟨rfl, HBb.out⟩
set_option maxHeartbeats 1000000 in
theorem has5_yes (n : Int) (p1 p2 p3 p4 p5 : Bool) (w : World) (h : kof n = (.agg #[.bool p1, .bool p2, .bool p3, .bool p4, .bool p5], 0)) :
    Calls Try.prog 48 #[.int .i64 n, .agg #[.bool p1, .bool p2, .bool p3, .bool p4, .bool p5]] w fun e w' => e = .returned (.bool true) ∧ Below w.heap.size w w' := by
  have H := Lib.hid h
  clear h
  have heq := eq63_same p1 p2 p3 p4 p5
  go_enter Try.func48, Try.ntmps48
  go_wp2_with fail
  refine (kof_any n _).mono ?_
  rw [H.out]
  rintro e w1 ⟨rfl, hb⟩
  obtain ⟨hc, hf⟩ := bcell hb
  have hz : w.heap.size < w1.heap.size := by have := hb.size; simp at this; omega
  have HBb := Lib.hid (below_step (below_alloc (Below.refl _ _) _) hb)
  clear hb
  go_wp2
  go_ret
  exact ⟨rfl, below_alloc HBb.out _⟩

set_option maxRecDepth 100000 in
set_option maxHeartbeats 2000000 in
theorem awake5_any (w : World) : Calls Try.prog 37 #[] w fun e w' => e = .returned (.bool true) ∧ Below w.heap.size w w' := by
  have HC0 := Lib.hid (Below.refl w.heap.size w)
  go_enter Try.func37, Try.ntmps37
  go_wp2_with fail
  refine (gets5_yes _ 1 1 [128] 3 1 0 _ (Bytes_lit (t := 5) (cur := #[.int .u8 128]) (at_alloc _ _ rfl) [128] rfl (by decide) (by decide)) (by decide +kernel) (by decide +kernel) (by decide +kernel)).mono ?_
  rintro e w' ⟨rfl, hb⟩
  have HC1 := Lib.hid (below_step (below_alloc HC0.out _) hb)
  clear hb
  go_wp2_with fail
  refine (gets5_yes _ 1 1 [16] 1 4 0 _ (Bytes_lit (t := 5) (cur := #[.int .u8 16]) (at_alloc _ _ rfl) [16] rfl (by decide) (by decide)) (by decide +kernel) (by decide +kernel) (by decide +kernel)).mono ?_
  rintro e w' ⟨rfl, hb⟩
  have HC2 := Lib.hid (below_step (below_alloc HC1.out _) hb)
  clear hb
  go_wp2_with fail
  refine (puts5_yes 9 ⟨#[48, 49]⟩ 0 _ (by decide +kernel)).mono ?_
  rintro e w' ⟨rfl, hb⟩
  have HC3 := Lib.hid (below_step HC2.out hb)
  clear hb
  go_wp2_with fail
  refine (has5_yes 1 true false false false false _ rfl).mono ?_
  rintro e w' ⟨rfl, hb⟩
  have HC4 := Lib.hid (below_step HC3.out hb)
  clear hb
  go_wp2
  go_ret
  exact ⟨rfl, HC4.out⟩

set_option maxRecDepth 100000 in
set_option maxHeartbeats 2000000 in
theorem known5_any (w : World) : Calls Try.prog 9 #[] w fun e w' => e = .returned (.bool true) ∧ Below w.heap.size w w' := by
  have HC0 := Lib.hid (Below.refl w.heap.size w)
  go_enter Try.func9, Try.ntmps9
  go_wp2_with fail
  refine (awake5_any _).mono ?_
  rintro e w' ⟨rfl, hb⟩
  have HC1 := Lib.hid (below_step HC0.out hb)
  clear hb
  go_wp2_with fail
  refine (gets5_yes _ 2 2 [0, 64] 7 10 0 _ (Bytes_lit (t := 5) (cur := #[.int .u8 0, .int .u8 64]) (at_alloc _ _ rfl) [0, 64] rfl (by decide) (by decide)) (by decide +kernel) (by decide +kernel) (by decide +kernel)).mono ?_
  rintro e w' ⟨rfl, hb⟩
  have HC2 := Lib.hid (below_step (below_alloc HC1.out _) hb)
  clear hb
  go_wp2_with fail
  refine (gets5_yes _ 1 1 [0] 0 0 5 _ (Bytes_lit (t := 5) (cur := #[.int .u8 0]) (at_alloc _ _ rfl) [0] rfl (by decide) (by decide)) (by decide +kernel) (by decide +kernel) (by decide +kernel)).mono ?_
  rintro e w' ⟨rfl, hb⟩
  have HC3 := Lib.hid (below_step (below_alloc HC2.out _) hb)
  clear hb
  go_wp2_with fail
  refine (gets5_yes _ 2 2 [0, 0] 0 0 7 _ (Bytes_lit (t := 5) (cur := #[.int .u8 0, .int .u8 0]) (at_alloc _ _ rfl) [0, 0] rfl (by decide) (by decide)) (by decide +kernel) (by decide +kernel) (by decide +kernel)).mono ?_
  rintro e w' ⟨rfl, hb⟩
  have HC4 := Lib.hid (below_step (below_alloc HC3.out _) hb)
  clear hb
  go_wp2_with fail
  refine (puts5_yes 0 ⟨#[]⟩ 18 _ (by decide +kernel)).mono ?_
  rintro e w' ⟨rfl, hb⟩
  have HC5 := Lib.hid (below_step HC4.out hb)
  clear hb
  go_wp2_with fail
  refine (puts5_yes 11 ⟨#[]⟩ 18 _ (by decide +kernel)).mono ?_
  rintro e w' ⟨rfl, hb⟩
  have HC6 := Lib.hid (below_step HC5.out hb)
  clear hb
  go_wp2_with fail
  refine (has5_yes 10 false true true true true _ rfl).mono ?_
  rintro e w' ⟨rfl, hb⟩
  have HC7 := Lib.hid (below_step HC6.out hb)
  clear hb
  go_wp2
  go_ret
  exact ⟨rfl, HC7.out⟩
end Go.Proofs.Ythjfigaalknoiaa
