/- The small functions of layer 7's statements; the chapter's examples. -/
import Derived.Test.YthjfigaalknoiaaDoorPHas
import Derived.Test.YthjfigaalknoiaaDoorGets
set_option linter.unusedVariables false
set_option linter.unusedSimpArgs false
namespace Go.Proofs.YthjfigaalknoiaaDoor
open Go.RowKit Go.Proofs.YthjfigaalknoiaaDoorW.PrintWords Pt


theorem pget_any (A : Option Addr) (nn cc : Nat) (bs : List Int) (i : Int) (w : World) (hsp : Spaces w) (hB : Bytes w A nn bs) (h63 : i < 9223372036854775808) :
    Calls Tryd.prog 11 #[.slice A nn cc, .int .i64 i] w fun e w' => e = .returned (.tuple #[.int .i64 (ansAt pcs pns bs nn i).v, .int .i64 (ansAt pcs pns bs nn i).n, .int .i64 (ansAt pcs pns bs nn i).e]) ∧ Below w.heap.size w w' := by
  have HB := Lib.hid hB
  have HSP := Lib.hid hsp
  clear hB hsp
  go_enter Tryd.func11, Tryd.ntmps11
  go_wp2_with fail
  refine (ptree_any w HSP.out).mono ?_
  rintro e w1 ⟨p, rfl, hb, ht⟩
  have HT := Lib.hid ht
  have HB1 := Lib.hid hb
  clear hb ht
  go_wp2_with fail
  refine (tr_get A nn cc bs i w1 HT.out (HB.out.below HB1.out) h63).mono ?_
  rintro e w2 ⟨rfl, hb⟩
  have HB2 := Lib.hid (below_step HB1.out hb)
  clear hb
  simp only []
  go_wp2
  go_ret3
  exact ⟨rfl, HB2.out⟩
theorem pput_any (n : Int) (w : World) (hsp : Spaces w) : Calls Tryd.prog 13 #[.int .i64 n] w fun e w' => e = .returned (.tuple #[.string (rlook pcs pns n).1, .int .i64 (rlook pcs pns n).2]) ∧ Below w.heap.size w w' := by
  have HSP := Lib.hid hsp
  clear hsp
  go_enter Tryd.func13, Tryd.ntmps13
  go_wp2_with fail
  refine (ptree_any w HSP.out).mono ?_
  rintro e w1 ⟨p, rfl, hb, ht⟩
  have HT := Lib.hid ht
  have HB1 := Lib.hid hb
  clear hb ht
  have HL := Lib.hid (told_look pcs pns n)
  go_wp2_with fail
  refine (tr_put n w1 HT.out).mono ?_
  rw [HL.out.1, HL.out.2]
  rintro e w2 ⟨rfl, hb⟩
  have HB2 := Lib.hid (below_step HB1.out hb)
  clear hb
  go_wp2
  go_ret2
  exact ⟨rfl, HB2.out⟩
theorem gets7_yes (A : Option Addr) (nn cc : Nat) (bs : List Int) (want size err : Int) (w : World) (hsp : Spaces w) (hB : Bytes w A nn bs)
    (h1 : (ansAt pcs pns bs nn 0).v = want) (h2 : (ansAt pcs pns bs nn 0).n = size) (h3 : (ansAt pcs pns bs nn 0).e = err) :
    Calls Tryd.prog 25 #[.int .i64 want, .int .i64 size, .int .i64 err, .slice A nn cc] w fun e w' => e = .returned (.bool true) ∧ Below w.heap.size w w' := by
  have HB := Lib.hid hB
  have HSP := Lib.hid hsp
  have H1 := Lib.hid h1
  have H2 := Lib.hid h2
  have H3 := Lib.hid h3
  clear hB hsp h1 h2 h3
  have b1 : (want == want) = true := by simp
  have b2 : (size == size) = true := by simp
  have b3 : (err == err) = true := by simp
  go_enter Tryd.func25, Tryd.ntmps25
  go_wp2_with fail
  refine (pget_any A nn cc bs 0 w HSP.out HB.out (by decide)).mono ?_
  rw [H1.out, H2.out, H3.out]
  rintro e w' ⟨rfl, hb⟩
  have HBb := Lib.hid hb
  clear hb
  go_wp2
  go_ret
  exact ⟨rfl, HBb.out⟩
theorem puts7_yes (n : Int) (want : ByteArray) (err : Int) (w : World) (hsp : Spaces w) (h : rlook pcs pns n = (want, err)) :
    Calls Tryd.prog 26 #[.int .i64 n, .string want, .int .i64 err] w fun e w' => e = .returned (.bool true) ∧ Below w.heap.size w w' := by
  have H := Lib.hid h
  have HSP := Lib.hid hsp
  clear h hsp
  have b3 : (err == err) = true := by simp
  go_enter Tryd.func26, Tryd.ntmps26
  go_wp2_with fail
  refine (pput_any n w HSP.out).mono ?_
  rw [H.out]
  rintro e w' ⟨rfl, hb⟩
  have HBb := Lib.hid hb
  clear hb
  go_wp2
  go_ret
  exact ⟨rfl, HBb.out⟩

set_option maxRecDepth 100000 in
set_option maxHeartbeats 4000000 in
theorem awake7_any (w : World) (hsp : Spaces w) : Calls Tryd.prog 9 #[] w fun e w' => e = .returned (.bool true) ∧ Below w.heap.size w w' := by
  have HSP := Lib.hid hsp
  clear hsp
  have HC0 := Lib.hid (Below.refl w.heap.size w)
  go_enter Tryd.func9, Tryd.ntmps9
  go_wp2_with fail
  refine (gets7_yes _ 1 1 [224] 60 3 0 _ (HSP.out.below (below_alloc HC0.out _)) (Bytes_lit (t := 5) (cur := #[.int .u8 224]) (at_alloc _ _ rfl) [224] rfl (by decide) (by decide)) (by decide +kernel) (by decide +kernel) (by decide +kernel)).mono ?_
  rintro e w' ⟨rfl, hb⟩
  have HC1 := Lib.hid (below_step (below_alloc HC0.out _) hb)
  clear hb
  go_wp2_with fail
  refine (puts7_yes 1 ⟨#[48, 49, 48, 49, 49]⟩ 0 _ (HSP.out.below HC1.out) (by decide +kernel)).mono ?_
  rintro e w' ⟨rfl, hb⟩
  have HC2 := Lib.hid (below_step HC1.out hb)
  clear hb
  go_wp2_with fail
  refine (has_any 32 1 _).mono ?_
  rw [show phas 32 1 = true by decide +kernel]
  rintro e w' ⟨rfl, hb⟩
  have HC3 := Lib.hid (below_step HC2.out hb)
  clear hb
  go_wp2_with fail
  refine (pcnt_any 60 _).mono ?_
  rw [show pcount 60 6 = 4 by decide +kernel]
  rintro e w' ⟨rfl, hb⟩
  have HC4 := Lib.hid (below_step HC3.out hb)
  clear hb
  go_wp2
  go_ret
  exact ⟨rfl, HC4.out⟩

set_option maxRecDepth 100000 in
set_option maxHeartbeats 4000000 in
theorem known7_any (w : World) (hsp : Spaces w) : Calls Tryd.prog 7 #[] w fun e w' => e = .returned (.bool true) ∧ Below w.heap.size w w' := by
  have HSP := Lib.hid hsp
  clear hsp
  have HC0 := Lib.hid (Below.refl w.heap.size w)
  go_enter Tryd.func7, Tryd.ntmps7
  go_wp2_with fail
  refine (gets7_yes _ 2 2 [1, 0] 39 9 0 _ (HSP.out.below (below_alloc HC0.out _)) (Bytes_lit (t := 5) (cur := #[.int .u8 1, .int .u8 0]) (at_alloc _ _ rfl) [1, 0] rfl (by decide) (by decide)) (by decide +kernel) (by decide +kernel) (by decide +kernel)).mono ?_
  rintro e w' ⟨rfl, hb⟩
  have HC1 := Lib.hid (below_step (below_alloc HC0.out _) hb)
  clear hb
  go_wp2_with fail
  refine (gets7_yes _ 2 2 [0, 0] 0 0 7 _ (HSP.out.below (below_alloc HC1.out _)) (Bytes_lit (t := 5) (cur := #[.int .u8 0, .int .u8 0]) (at_alloc _ _ rfl) [0, 0] rfl (by decide) (by decide)) (by decide +kernel) (by decide +kernel) (by decide +kernel)).mono ?_
  rintro e w' ⟨rfl, hb⟩
  have HC2 := Lib.hid (below_step (below_alloc HC1.out _) hb)
  clear hb
  go_wp2_with fail
  refine (gets7_yes _ 1 1 [1] 0 0 5 _ (HSP.out.below (below_alloc HC2.out _)) (Bytes_lit (t := 5) (cur := #[.int .u8 1]) (at_alloc _ _ rfl) [1] rfl (by decide) (by decide)) (by decide +kernel) (by decide +kernel) (by decide +kernel)).mono ?_
  rintro e w' ⟨rfl, hb⟩
  have HC3 := Lib.hid (below_step (below_alloc HC2.out _) hb)
  clear hb
  go_wp2_with fail
  refine (puts7_yes 63 ⟨#[48, 48, 49, 49, 48, 48]⟩ 0 _ (HSP.out.below HC3.out) (by decide +kernel)).mono ?_
  rintro e w' ⟨rfl, hb⟩
  have HC4 := Lib.hid (below_step HC3.out hb)
  clear hb
  go_wp2_with fail
  refine (puts7_yes 0 ⟨#[]⟩ 18 _ (HSP.out.below HC4.out) (by decide +kernel)).mono ?_
  rintro e w' ⟨rfl, hb⟩
  have HC5 := Lib.hid (below_step HC4.out hb)
  clear hb
  go_wp2_with fail
  refine (puts7_yes 64 ⟨#[]⟩ 18 _ (HSP.out.below HC5.out) (by decide +kernel)).mono ?_
  rintro e w' ⟨rfl, hb⟩
  have HC6 := Lib.hid (below_step HC5.out hb)
  clear hb
  go_wp2_with fail
  refine (awake7_any _ (HSP.out.below HC6.out)).mono ?_
  rintro e w' ⟨rfl, hb⟩
  have HC7 := Lib.hid (below_step HC6.out hb)
  clear hb
  go_wp2_with fail
  refine (has_any 32 2 _).mono ?_
  rw [show phas 32 2 = false by decide +kernel]
  rintro e w' ⟨rfl, hb⟩
  have HC8 := Lib.hid (below_step HC7.out hb)
  clear hb
  go_wp2_with fail
  refine (has_any 1 6 _).mono ?_
  rw [show phas 1 6 = true by decide +kernel]
  rintro e w' ⟨rfl, hb⟩
  have HC9 := Lib.hid (below_step HC8.out hb)
  clear hb
  go_wp2_with fail
  refine (has_any 63 7 _).mono ?_
  rw [show phas 63 7 = false by decide +kernel]
  rintro e w' ⟨rfl, hb⟩
  have HC10 := Lib.hid (below_step HC9.out hb)
  clear hb
  go_wp2_with fail
  refine (has_any 64 1 _).mono ?_
  rw [show phas 64 1 = false by decide +kernel]
  rintro e w' ⟨rfl, hb⟩
  have HC11 := Lib.hid (below_step HC10.out hb)
  clear hb
  go_wp2_with fail
  refine (pcnt_any 0 _).mono ?_
  rw [show pcount 0 6 = 0 by decide +kernel]
  rintro e w' ⟨rfl, hb⟩
  have HC12 := Lib.hid (below_step HC11.out hb)
  clear hb
  go_wp2
  go_ret
  exact ⟨rfl, HC12.out⟩
end Go.Proofs.YthjfigaalknoiaaDoor
