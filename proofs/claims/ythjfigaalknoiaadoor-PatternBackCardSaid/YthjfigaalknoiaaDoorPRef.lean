/- Layer 7 (pattern): its codes; the reference's functions. -/
import Derived.Test.YthjfigaalknoiaaDoorMatch
import Derived.Test.YthjfigaalknoiaaDoorTwo
set_option linter.unusedVariables false
set_option linter.unusedSimpArgs false
namespace Go.Proofs.YthjfigaalknoiaaDoor
open Go.RowKit Go.Proofs.YthjfigaalknoiaaDoorW.PrintWords Pt

def pcs : List ByteArray := [⟨#[48, 49, 48, 49, 49]⟩,
  ⟨#[48, 49, 48, 48, 49]⟩,
  ⟨#[48, 48, 49, 49, 48, 49]⟩,
  ⟨#[49, 49, 48, 49]⟩,
  ⟨#[48, 48, 49, 48, 49, 49, 49]⟩,
  ⟨#[48, 48, 49, 48, 48, 49, 49]⟩,
  ⟨#[48, 48, 48, 49, 49, 49, 49, 49]⟩,
  ⟨#[49, 49, 48, 48]⟩,
  ⟨#[48, 48, 49, 48, 49, 49, 48]⟩,
  ⟨#[48, 48, 49, 48, 48, 49, 48]⟩,
  ⟨#[48, 48, 48, 49, 49, 49, 49, 48]⟩,
  ⟨#[49, 48, 48, 49, 49]⟩,
  ⟨#[48, 48, 48, 49, 49, 48, 49, 49]⟩,
  ⟨#[48, 48, 48, 49, 48, 49, 49, 49]⟩,
  ⟨#[48, 48, 48, 49, 48, 48, 49, 49]⟩,
  ⟨#[49, 48, 49, 49]⟩,
  ⟨#[48, 48, 49, 48, 49, 48, 49]⟩,
  ⟨#[48, 48, 49, 48, 48, 48, 49]⟩,
  ⟨#[48, 48, 48, 49, 49, 49, 48, 49]⟩,
  ⟨#[49, 48, 48, 48, 49]⟩,
  ⟨#[48, 48, 48, 49, 49, 48, 48, 49]⟩,
  ⟨#[48, 48, 48, 49, 48, 49, 48, 49]⟩,
  ⟨#[48, 48, 48, 49, 48, 48, 48, 49]⟩,
  ⟨#[48, 48, 49, 49, 49, 49]⟩,
  ⟨#[48, 48, 48, 48, 49, 49, 49, 49]⟩,
  ⟨#[48, 48, 48, 48, 49, 49, 48, 49]⟩,
  ⟨#[48, 48, 48, 48, 48, 48, 48, 49, 49]⟩,
  ⟨#[48, 49, 49, 49, 49]⟩,
  ⟨#[48, 48, 48, 48, 49, 48, 49, 49]⟩,
  ⟨#[48, 48, 48, 48, 48, 49, 49, 49]⟩,
  ⟨#[48, 48, 48, 48, 48, 48, 49, 49, 49]⟩,
  ⟨#[49, 48, 49, 48]⟩,
  ⟨#[48, 48, 49, 48, 49, 48, 48]⟩,
  ⟨#[48, 48, 49, 48, 48, 48, 48]⟩,
  ⟨#[48, 48, 48, 49, 49, 49, 48, 48]⟩,
  ⟨#[48, 48, 49, 49, 49, 48]⟩,
  ⟨#[48, 48, 48, 48, 49, 49, 49, 48]⟩,
  ⟨#[48, 48, 48, 48, 49, 49, 48, 48]⟩,
  ⟨#[48, 48, 48, 48, 48, 48, 48, 49, 48]⟩,
  ⟨#[49, 48, 48, 48, 48]⟩,
  ⟨#[48, 48, 48, 49, 49, 48, 48, 48]⟩,
  ⟨#[48, 48, 48, 49, 48, 49, 48, 48]⟩,
  ⟨#[48, 48, 48, 49, 48, 48, 48, 48]⟩,
  ⟨#[48, 49, 49, 49, 48]⟩,
  ⟨#[48, 48, 48, 48, 49, 48, 49, 48]⟩,
  ⟨#[48, 48, 48, 48, 48, 49, 49, 48]⟩,
  ⟨#[48, 48, 48, 48, 48, 48, 49, 49, 48]⟩,
  ⟨#[49, 48, 48, 49, 48]⟩,
  ⟨#[48, 48, 48, 49, 49, 48, 49, 48]⟩,
  ⟨#[48, 48, 48, 49, 48, 49, 49, 48]⟩,
  ⟨#[48, 48, 48, 49, 48, 48, 49, 48]⟩,
  ⟨#[48, 49, 49, 48, 49]⟩,
  ⟨#[48, 48, 48, 48, 49, 48, 48, 49]⟩,
  ⟨#[48, 48, 48, 48, 48, 49, 48, 49]⟩,
  ⟨#[48, 48, 48, 48, 48, 48, 49, 48, 49]⟩,
  ⟨#[48, 49, 49, 48, 48]⟩,
  ⟨#[48, 48, 48, 48, 49, 48, 48, 48]⟩,
  ⟨#[48, 48, 48, 48, 48, 49, 48, 48]⟩,
  ⟨#[48, 48, 48, 48, 48, 48, 49, 48, 48]⟩,
  ⟨#[49, 49, 49]⟩,
  ⟨#[48, 49, 48, 49, 48]⟩,
  ⟨#[48, 49, 48, 48, 48]⟩,
  ⟨#[48, 48, 49, 49, 48, 48]⟩]
def pns : List Int := [1, 2, 3, 4, 5, 6, 7, 8, 9, 10, 11, 12, 13, 14, 15, 16, 17, 18, 19, 20, 21, 22, 23, 24, 25, 26, 27, 28, 29, 30, 31, 32, 33, 34, 35, 36, 37, 38, 39, 40, 41, 42, 43, 44, 45, 46, 47, 48, 49, 50, 51, 52, 53, 54, 55, 56, 57, 58, 59, 60, 61, 62, 63]
theorem pgood : ¬ Bad pcs pns := by decide +kernel
theorem papart : (pairs pcs pns).Pairwise Apart := by decide +kernel
theorem pshort : ∀ s ∈ pcs, s.size ≤ maxLen := by
  have : ∀ s ∈ pcs, s.size ≤ 24 := by decide +kernel
  intro s hs
  have := this s hs
  unfold maxLen; omega
theorem pcs_at : ∀ k : Nat, k < 63 → pcs[k]? = some (pcs.getD k ⟨#[]⟩) := by decide +kernel
theorem pns_at : ∀ k : Nat, k < 63 → pns[k]? = some ((k : Int) + 1) := by decide +kernel

set_option maxRecDepth 100000 in
theorem codes42 (w : World) : Calls Tryd.prog 42 #[] w fun e w' => e = .returned (.slice (some ⟨w.heap.size, 0, none⟩) 63 63) ∧ w.alloc (.cells (pcs.map Value.string).toArray 9) = w' := by
  go_enter Tryd.func42, Tryd.ntmps42
  go_wp2
  go_ret
  exact ⟨rfl, by rfl⟩

/-- A row of numbers that grows. -/
structure R1 (w0 : World) (vs : List Int) (v : Value) (k : Nat) (W : World) : Prop where
  bl : Below w0.heap.size w0 W
  own : W.ownsRow w0.heap.size 3 1 v k ((vs.take k).map (Value.int .i64))

set_option maxRecDepth 100000 in
set_option maxHeartbeats 1000000 in
theorem rptree_any (w : World) : Calls Tryd.prog 34 #[] w fun e w' => ∃ B p, e = .returned (.pointer (some ⟨p, 0, none⟩)) ∧ Below w.heap.size w w' ∧ RT B w' p pcs pns := by
  go_enter Tryd.func34, Tryd.ntmps34
  go_wp2
  go_loopw [1, 2] (fun v i wr => ∃ k : Nat, k ≤ 63 ∧ i = .int .i64 ((k : Int) + 1) ∧ Hid (R1 w pns v k wr)) (fun _ i _ => (64 - intOf i).toNat)
  case atStart => exact ⟨0, by omega, rfl, Lib.hid ⟨Below.refl _ _, World.ownsRow_nil _ _ _ _⟩⟩
  case round =>
    obtain ⟨k, hk, rfl, HR⟩ := hrel
    by_cases hlt : k < 63
    · have HN := Lib.hid (pns_at k hlt)
      have h1 : (k : Int) + 1 ≤ 63 := by omega
      have hs1 : k + 1 ≤ 9223372036854775807 := by omega
      go_wp2_with (at_builtin; refine wpList_append_one (W := wr) rfl _ _ 30 3 _ 8 rfl Tryd.underlying30 info3 rfl (.int .i64 ((k : Int) + 1)) rfl rfl HR.out.own rfl HR.out.bl.size hs1 (by omega) ?_; intro v1 w1 hg1 ho1; have HG := Lib.hid hg1; have HO := Lib.hid ho1; clear hg1 ho1)
      go_roundw
      case rel =>
        refine ⟨k + 1, by omega, by go_num, Lib.hid ⟨(HR.out.bl.alloc HR.out.bl.size _).grown HG.out (Nat.le_trans HR.out.bl.size (by simp)) (fun g e => (HR.out.own.lt g e).1), ?_⟩⟩
        have hn := HN.out
        obtain ⟨hkl, hke⟩ := List.getElem?_eq_some_iff.1 hn
        rw [List.take_succ_eq_append_getElem hkl, List.map_append, hke]
        exact HO.out
      case measure => simp [intOf]; omega
    · obtain rfl : k = 63 := by omega
      have hown := HR.out.own
      rw [show pns.take 63 = pns from rfl] at hown
      obtain ⟨g, c, rfl, hBg, hglt⟩ := hown.form (by omega)
      have HV : Hid ((Kd.int .i64).C wr (some ⟨g, 0, none⟩) 63 pns) := Lib.hid (int_row ⟨rfl, fun _ => ⟨_, rfl, fun j u hu => hown.cells (g := g) rfl j u hu⟩⟩ (by omega))
      clear hown
      obtain ⟨wo, hwo⟩ : ∃ wo, wo = wr := ⟨_, rfl⟩
      subst hwo
      go_wp2_with fail
      refine (codes42 wo).mono ?_
      rintro e w1 ⟨rfl, hw⟩
      have hb2 := below_alloc (Below.refl wo.heap.size wo) (.cells (pcs.map Value.string).toArray 9)
      rw [hw] at hb2
      have HC1 : Hid (Kd.string.C w1 (some ⟨wo.heap.size, 0, none⟩) 63 pcs) := Lib.hid (hw ▸ C_str (at_alloc _ _ rfl) pcs (by simp) (by decide))
      have HV1 := Lib.hid (Kd.C_below HV.out hb2)
      have HB1 := Lib.hid (below_step HR.out.bl hb2)
      clear hw hb2
      go_wp2_with fail
      refine (rmake_any (some ⟨wo.heap.size, 0, none⟩) (some ⟨g, 0, none⟩) 63 63 63 c pcs pns w1 HC1.out HV1.out pshort).mono ?_
      intro e w3 hm
      obtain ⟨p, rfl, ht⟩ := hm.tree pgood ((free_iff pgood).2 papart)
      have HT := Lib.hid ht
      have HB3 := Lib.hid (below_step HB1.out hm.below)
      clear hm ht
      go_wp2
      go_ret
      exact ⟨_, p, rfl, HB3.out, HT.out⟩
theorem rpget_any (A : Option Addr) (nn cc : Nat) (bs : List Int) (i : Int) (w : World) (hB : Bytes w A nn bs) (h63 : i < 9223372036854775808) :
    Calls Tryd.prog 18 #[.slice A nn cc, .int .i64 i] w fun e w' => e = .returned (.tuple #[.int .i64 (ansAt pcs pns bs nn i).v, .int .i64 (ansAt pcs pns bs nn i).n, .int .i64 (ansAt pcs pns bs nn i).e]) ∧ Below w.heap.size w w' := by
  have HB := Lib.hid hB
  clear hB
  go_enter Tryd.func18, Tryd.ntmps18
  go_wp2_with fail
  refine (rptree_any w).mono ?_
  rintro e w1 ⟨B, p, rfl, hb, ht⟩
  have HT := Lib.hid ht
  have HB1 := Lib.hid hb
  clear hb ht
  go_wp2_with fail
  refine (rget_any A nn cc bs i w1 HT.out pgood (HB.out.below HB1.out) h63).mono ?_
  rintro e w2 ⟨rfl, hb⟩
  have HB2 := Lib.hid (below_step HB1.out hb)
  clear hb
  simp only []
  go_wp2
  go_ret3
  exact ⟨rfl, HB2.out⟩
theorem rpput_any (n : Int) (w : World) : Calls Tryd.prog 20 #[.int .i64 n] w fun e w' => e = .returned (.tuple #[.string (rlook pcs pns n).1, .int .i64 (rlook pcs pns n).2]) ∧ Below w.heap.size w w' := by
  go_enter Tryd.func20, Tryd.ntmps20
  go_wp2_with fail
  refine (rptree_any w).mono ?_
  rintro e w1 ⟨B, p, rfl, hb, ht⟩
  have HT := Lib.hid ht
  have HB1 := Lib.hid hb
  clear hb ht
  go_wp2_with fail
  refine (rput_any n w1 HT.out).mono ?_
  rintro e w2 ⟨rfl, rfl⟩
  go_wp2
  go_ret2
  exact ⟨rfl, HB1.out⟩
end Go.Proofs.YthjfigaalknoiaaDoor
