/- The small functions of layer 3's statements: the chapter's tree, what is got, told, refused; the examples. -/
import Derived.Test.YthjfigaalknoiaaTr
set_option linter.unusedVariables false
set_option linter.unusedSimpArgs false
namespace Go.Proofs.Ythjfigaalknoiaa
open Go.RowKit Go.Proofs.YthjfigaalknoiaaW.PrintWords Pt

def cs3 : List ByteArray := [⟨#[49]⟩, ⟨#[48, 49]⟩, ⟨#[48, 48, 49]⟩]
def vs3 : List Int := [7, 8, 7]
theorem good3 : ¬ Bad cs3 vs3 := by decide +kernel
theorem apart3 : (pairs cs3 vs3).Pairwise Apart := by decide +kernel

theorem three_any (w : World) : Calls Try.prog 30 #[] w fun e w' => ∃ p, e = .returned (.pointer (some ⟨p, 0, none⟩)) ∧ Below w.heap.size w w' ∧ Tr w' p cs3 vs3 := by
  go_enter Try.func30, Try.ntmps30
  go_wp2_with fail
  refine (make_tr _ _ 3 _ 3 _ cs3 vs3 _ (C_str (t := 9) (cur := #[.string ⟨#[49]⟩, .string ⟨#[48, 49]⟩, .string ⟨#[48, 48, 49]⟩]) (at_old (at_alloc _ _ rfl)) cs3 rfl (by decide)) (C_int (t := 3) (cur := #[.int .i64 7, .int .i64 8, .int .i64 7]) (at_alloc _ _ (by simp)) vs3 rfl (by decide)) (by decide +kernel) good3 apart3).mono ?_
  rintro e w' ⟨p, rfl, hb, hT⟩
  go_wp2
  go_ret
  exact ⟨p, rfl, below_then (below_alloc (below_alloc (Below.refl _ _) _) _) (by simp; omega) hb, hT⟩

theorem gets_yes {p : Nat} {cs : List ByteArray} {vs : List Int} (A : Option Addr) (nn cc : Nat) (bs : List Int) (i want size err : Int) (w : World) (hT : Tr w p cs vs) (hB : Bytes w A nn bs) (h63 : i < 9223372036854775808)
    (h1 : (ansAt cs vs bs nn i).v = want) (h2 : (ansAt cs vs bs nn i).n = size) (h3 : (ansAt cs vs bs nn i).e = err) :
    Calls Try.prog 31 #[.pointer (some ⟨p, 0, none⟩), .slice A nn cc, .int .i64 i, .int .i64 want, .int .i64 size, .int .i64 err] w fun e w' => e = .returned (.bool true) ∧ Below w.heap.size w w' := by
  have HT := Lib.hid hT
  have HB := Lib.hid hB
  have H1 := Lib.hid h1
  have H2 := Lib.hid h2
  have H3 := Lib.hid h3
  clear hT hB h1 h2 h3
  go_enter Try.func31, Try.ntmps31
  go_wp2_with (go_at_call 25; refine (tr_get _ _ _ _ _ _ HT.out HB.out h63).mono ?_; rintro e w' ⟨rfl, hb⟩; rw [H1.out, H2.out, H3.out]; have HBb := Lib.hid hb; clear hb)
  go_ret
  exact ⟨rfl, HBb.out⟩

theorem puts_yes {p : Nat} {cs : List ByteArray} {vs : List Int} (num : Int) (want : ByteArray) (err : Int) (w : World) (hT : Tr w p cs vs)
    (h1 : (look (told cs vs) num).1 = want) (h2 : putErr (told cs vs) num = err) :
    Calls Try.prog 32 #[.pointer (some ⟨p, 0, none⟩), .int .i64 num, .string want, .int .i64 err] w fun e w' => e = .returned (.bool true) ∧ Below w.heap.size w w' := by
  have HT := Lib.hid hT
  have H1 := Lib.hid h1
  have H2 := Lib.hid h2
  clear hT h1 h2
  go_enter Try.func32, Try.ntmps32
  go_wp2_with (go_at_call 27; refine (tr_put _ _ HT.out).mono ?_; rintro e w' ⟨rfl, hb⟩; rw [H1.out, H2.out]; have HBb := Lib.hid hb; clear hb)
  go_ret
  exact ⟨rfl, HBb.out⟩

theorem refuses_yes (err : Int) (A A' : Option Addr) (n c n' c' : Nat) (cs : List ByteArray) (vs : List Int) (w : World) (hC : Kd.string.C w A n cs) (hV : (Kd.int .i64).C w A' n' vs) (hs : ∀ s ∈ cs, s.size ≤ maxLen)
    (h : (Bad cs vs ∧ err = 2) ∨ (¬ Bad cs vs ∧ ¬ (pairs cs vs).Pairwise Apart ∧ err = 14)) :
    Calls Try.prog 33 #[.int .i64 err, .slice A' n' c', .slice A n c] w fun e w' => e = .returned (.bool true) ∧ Below w.heap.size w w' := by
  have hm : Calls Try.prog 21 #[.slice A n c, .slice A' n' c'] w fun e w' => e = .returned (.tuple #[.pointer none, .int .i64 err]) ∧ Below w.heap.size w w' := by
    rcases h with ⟨h1, rfl⟩ | ⟨h1, h2, rfl⟩
    · exact (make_bad A A' n c n' c' cs vs w hC hV hs h1).mono fun e w' ⟨h3, h4⟩ => ⟨h3, by rw [← h4]; exact Below.refl _ _⟩
    · exact make_form A A' n c n' c' cs vs w hC hV hs h1 h2
  have HM := Lib.hid hm
  clear hm h hC hV hs
  go_enter Try.func33, Try.ntmps33
  go_wp2_with (go_at_call 21; refine (HM.out).mono ?_; rintro e w' ⟨rfl, hb⟩; have HBb := Lib.hid hb; clear hb)
  go_ret
  exact ⟨rfl, HBb.out⟩

theorem awake_any (w : World) : Calls Try.prog 19 #[] w fun e w' => e = .returned (.bool true) ∧ Below w.heap.size w w' := by
  go_enter Try.func19, Try.ntmps19
  go_wp2_with fail
  refine (three_any w).mono ?_
  rintro e w1 ⟨p, rfl, hb, hT⟩
  have HT := Lib.hid hT
  have HB1 := Lib.hid hb
  clear hT hb
  have HC0 := Lib.hid (Below.refl w1.heap.size w1)
  go_wp2_with fail
  refine (gets_yes (p := p) _ 1 1 [128] 0 7 1 0 _ (HT.out.below (below_alloc HC0.out _)) (Bytes_lit (t := 5) (cur := #[.int .u8 128]) (at_alloc _ _ rfl) [128] rfl (by decide) (by decide)) (by decide) (by decide +kernel) (by decide +kernel) (by decide +kernel)).mono ?_
  rintro e w' ⟨rfl, hb⟩
  have HC1 := Lib.hid (below_step (below_alloc HC0.out _) hb)
  clear hb
  go_wp2_with fail
  refine (gets_yes (p := p) _ 1 1 [64] 0 8 2 0 _ (HT.out.below (below_alloc HC1.out _)) (Bytes_lit (t := 5) (cur := #[.int .u8 64]) (at_alloc _ _ rfl) [64] rfl (by decide) (by decide)) (by decide) (by decide +kernel) (by decide +kernel) (by decide +kernel)).mono ?_
  rintro e w' ⟨rfl, hb⟩
  have HC2 := Lib.hid (below_step (below_alloc HC1.out _) hb)
  clear hb
  go_wp2_with fail
  refine (puts_yes (p := p) 8 ⟨#[48, 49]⟩ 0 _ (HT.out.below HC2.out) (by decide +kernel) (by decide +kernel)).mono ?_
  rintro e w' ⟨rfl, hb⟩
  have HC3 := Lib.hid (below_step HC2.out hb)
  clear hb
  go_wp2
  go_ret
  exact ⟨rfl, below_step HB1.out HC3.out⟩

set_option maxRecDepth 100000 in
theorem known_any (w : World) : Calls Try.prog 5 #[] w fun e w' => e = .returned (.bool true) ∧ Below w.heap.size w w' := by
  go_enter Try.func5, Try.ntmps5
  go_wp2_with fail
  refine (three_any w).mono ?_
  rintro e w1 ⟨p, rfl, hb, hT⟩
  have HT := Lib.hid hT
  have HB1 := Lib.hid hb
  clear hT hb
  have HC0 := Lib.hid (Below.refl w1.heap.size w1)
  go_wp2_with fail
  refine (gets_yes (p := p) _ 1 1 [64] 1 7 1 0 _ (HT.out.below (below_alloc HC0.out _)) (Bytes_lit (t := 5) (cur := #[.int .u8 64]) (at_alloc _ _ rfl) [64] rfl (by decide) (by decide)) (by decide) (by decide +kernel) (by decide +kernel) (by decide +kernel)).mono ?_
  rintro e w' ⟨rfl, hb⟩
  have HC4 := Lib.hid (below_step (below_alloc HC0.out _) hb)
  clear hb
  go_wp2_with fail
  refine (gets_yes (p := p) _ 1 1 [0] 0 0 0 7 _ (HT.out.below (below_alloc HC4.out _)) (Bytes_lit (t := 5) (cur := #[.int .u8 0]) (at_alloc _ _ rfl) [0] rfl (by decide) (by decide)) (by decide) (by decide +kernel) (by decide +kernel) (by decide +kernel)).mono ?_
  rintro e w' ⟨rfl, hb⟩
  have HC5 := Lib.hid (below_step (below_alloc HC4.out _) hb)
  clear hb
  go_wp2_with fail
  refine (gets_yes (p := p) _ 1 1 [0] 7 0 0 5 _ (HT.out.below (below_alloc HC5.out _)) (Bytes_lit (t := 5) (cur := #[.int .u8 0]) (at_alloc _ _ rfl) [0] rfl (by decide) (by decide)) (by decide) (by decide +kernel) (by decide +kernel) (by decide +kernel)).mono ?_
  rintro e w' ⟨rfl, hb⟩
  have HC6 := Lib.hid (below_step (below_alloc HC5.out _) hb)
  clear hb
  go_wp2_with fail
  refine (gets_yes (p := p) none 0 0 [] 0 0 0 5 _ (HT.out.below HC6.out) (Bytes_none _) (by decide) (by decide +kernel) (by decide +kernel) (by decide +kernel)).mono ?_
  rintro e w' ⟨rfl, hb⟩
  have HC7 := Lib.hid (below_step HC6.out hb)
  clear hb
  go_wp2_with fail
  refine (gets_yes (p := p) _ 1 1 [1] (-1) 0 0 3 _ (HT.out.below (below_alloc HC7.out _)) (Bytes_lit (t := 5) (cur := #[.int .u8 1]) (at_alloc _ _ rfl) [1] rfl (by decide) (by decide)) (by decide) (by decide +kernel) (by decide +kernel) (by decide +kernel)).mono ?_
  rintro e w' ⟨rfl, hb⟩
  have HC8 := Lib.hid (below_step (below_alloc HC7.out _) hb)
  clear hb
  go_wp2_with fail
  refine (puts_yes (p := p) 7 ⟨#[49]⟩ 0 _ (HT.out.below HC8.out) (by decide +kernel) (by decide +kernel)).mono ?_
  rintro e w' ⟨rfl, hb⟩
  have HC9 := Lib.hid (below_step HC8.out hb)
  clear hb
  go_wp2_with fail
  refine (puts_yes (p := p) 9 ⟨#[]⟩ 18 _ (HT.out.below HC9.out) (by decide +kernel) (by decide +kernel)).mono ?_
  rintro e w' ⟨rfl, hb⟩
  have HC10 := Lib.hid (below_step HC9.out hb)
  clear hb
  go_wp2_with fail
  refine (tr_codes (p := p) _ (HT.out.below HC10.out)).mono ?_
  rintro e w' ⟨rfl, hw⟩
  subst hw
  go_wp2_with fail
  refine (awake_any _).mono ?_
  rintro e w' ⟨rfl, hb⟩
  have HD0 := Lib.hid (below_step HC10.out hb)
  clear hb
  go_wp2_with fail
  refine (refuses_yes 14 _ _ 2 _ 2 _ [⟨#[49]⟩, ⟨#[49, 48]⟩] [1, 2] _ (C_str (t := 9) (cur := #[.string ⟨#[49]⟩, .string ⟨#[49, 48]⟩]) (at_alloc _ _ (by simp)) [⟨#[49]⟩, ⟨#[49, 48]⟩] rfl (by decide)) (C_int (t := 3) (cur := #[.int .i64 1, .int .i64 2]) (at_old (at_alloc _ _ rfl)) [1, 2] rfl (by decide)) (by decide +kernel) (.inr ⟨by decide +kernel, by decide +kernel, rfl⟩)).mono ?_
  rintro e w' ⟨rfl, hb⟩
  have HD1 := Lib.hid (below_step (below_alloc (below_alloc HD0.out _) _) hb)
  clear hb
  go_wp2_with fail
  refine (refuses_yes 14 _ _ 2 _ 2 _ [⟨#[49]⟩, ⟨#[49]⟩] [1, 2] _ (C_str (t := 9) (cur := #[.string ⟨#[49]⟩, .string ⟨#[49]⟩]) (at_alloc _ _ (by simp)) [⟨#[49]⟩, ⟨#[49]⟩] rfl (by decide)) (C_int (t := 3) (cur := #[.int .i64 1, .int .i64 2]) (at_old (at_alloc _ _ rfl)) [1, 2] rfl (by decide)) (by decide +kernel) (.inr ⟨by decide +kernel, by decide +kernel, rfl⟩)).mono ?_
  rintro e w' ⟨rfl, hb⟩
  have HD2 := Lib.hid (below_step (below_alloc (below_alloc HD1.out _) _) hb)
  clear hb
  go_wp2_with fail
  refine (refuses_yes 2 _ _ 1 _ 1 _ [⟨#[50]⟩] [1] _ (C_str (t := 9) (cur := #[.string ⟨#[50]⟩]) (at_alloc _ _ (by simp)) [⟨#[50]⟩] rfl (by decide)) (C_int (t := 3) (cur := #[.int .i64 1]) (at_old (at_alloc _ _ rfl)) [1] rfl (by decide)) (by decide +kernel) (.inl ⟨by decide +kernel, rfl⟩)).mono ?_
  rintro e w' ⟨rfl, hb⟩
  have HD3 := Lib.hid (below_step (below_alloc (below_alloc HD2.out _) _) hb)
  clear hb
  go_wp2_with fail
  refine (refuses_yes 2 _ _ 1 _ 2 _ [⟨#[49]⟩] [1, 2] _ (C_str (t := 9) (cur := #[.string ⟨#[49]⟩]) (at_alloc _ _ (by simp)) [⟨#[49]⟩] rfl (by decide)) (C_int (t := 3) (cur := #[.int .i64 1, .int .i64 2]) (at_old (at_alloc _ _ rfl)) [1, 2] rfl (by decide)) (by decide +kernel) (.inl ⟨by decide +kernel, rfl⟩)).mono ?_
  rintro e w' ⟨rfl, hb⟩
  have HD4 := Lib.hid (below_step (below_alloc (below_alloc HD3.out _) _) hb)
  clear hb
  go_wp2_with fail
  refine (refuses_yes 2 none none 0 0 0 0 [] [] _ (C_none _ _) (C_none _ _) (by decide) (.inl ⟨by decide +kernel, rfl⟩)).mono ?_
  rintro e w' ⟨rfl, hb⟩
  have HD5 := Lib.hid (below_step HD4.out hb)
  clear hb
  go_wp2
  go_ret
  exact ⟨rfl, below_step HB1.out HD5.out⟩
end Go.Proofs.Ythjfigaalknoiaa
