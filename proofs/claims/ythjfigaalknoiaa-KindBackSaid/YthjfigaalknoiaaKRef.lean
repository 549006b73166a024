/- Layer 5 (kind): its codes and parts; the reference's functions. -/
import Derived.Test.YthjfigaalknoiaaMatch
set_option linter.unusedVariables false
set_option linter.unusedSimpArgs false
namespace Go.Proofs.Ythjfigaalknoiaa
open Go.RowKit Go.Proofs.YthjfigaalknoiaaW.PrintWords Pt

def kcs : List ByteArray := [⟨#[48, 48, 48, 49]⟩, ⟨#[48, 48, 48, 48, 48, 48, 49]⟩, ⟨#[49]⟩, ⟨#[48, 48, 48, 48, 49]⟩, ⟨#[48, 48, 48, 48, 48, 48, 48, 48, 49]⟩, ⟨#[48, 48, 48, 48, 48, 48, 48, 49]⟩, ⟨#[48, 48, 48, 48, 48, 48, 48, 48, 48, 49]⟩, ⟨#[48, 48, 49]⟩, ⟨#[48, 49]⟩, ⟨#[48, 48, 48, 48, 48, 49]⟩]
def kns : List Int := [1, 2, 3, 4, 5, 6, 7, 8, 9, 10]
def kparts : List Value := [.agg #[.bool true, .bool false, .bool false, .bool false, .bool false],
  .agg #[.bool true, .bool true, .bool false, .bool false, .bool false],
  .agg #[.bool false, .bool false, .bool false, .bool false, .bool true],
  .agg #[.bool false, .bool true, .bool false, .bool false, .bool true],
  .agg #[.bool false, .bool false, .bool true, .bool false, .bool false],
  .agg #[.bool false, .bool false, .bool true, .bool false, .bool true],
  .agg #[.bool false, .bool true, .bool true, .bool false, .bool true],
  .agg #[.bool false, .bool false, .bool true, .bool true, .bool false],
  .agg #[.bool false, .bool false, .bool true, .bool true, .bool true],
  .agg #[.bool false, .bool true, .bool true, .bool true, .bool true]]
def knone : Value := .agg #[.bool false, .bool false, .bool false, .bool false, .bool false]
def kof (n : Int) : Value × Int := if n < 1 ∨ 10 < n then (knone, 18) else (kparts.getD (n - 1).toNat knone, 0)
theorem kgood : ¬ Bad kcs kns := by decide +kernel
theorem kapart : (pairs kcs kns).Pairwise Apart := by decide +kernel
theorem kshort : ∀ s ∈ kcs, s.size ≤ maxLen := by
  have : ∀ s ∈ kcs, s.size ≤ 24 := by decide +kernel
  intro s hs
  have := this s hs
  unfold maxLen; omega
theorem kcs_at : ∀ k : Nat, k < 10 → kcs[k]? = some (kcs.getD k ⟨#[]⟩) := by decide +kernel
theorem kns_at : ∀ k : Nat, k < 10 → kns[k]? = some ((k : Int) + 1) := by decide +kernel

theorem codes100 (w : World) : Calls Try.prog 100 #[] w fun e w' => e = .returned (.slice (some ⟨w.heap.size, 0, none⟩) 10 10) ∧ w.alloc (.cells (kcs.map Value.string).toArray 9) = w' := by
  go_enter Try.func100, Try.ntmps100
  go_wp2
  go_ret
  exact ⟨rfl, by rfl⟩
theorem rktree_any (w : World) : Calls Try.prog 84 #[] w fun e w' => ∃ B p, e = .returned (.pointer (some ⟨p, 0, none⟩)) ∧ Below w.heap.size w w' ∧ RT B w' p kcs kns := by
  go_enter Try.func84, Try.ntmps84
  go_wp2_with fail
  refine (codes100 w).mono ?_
  rintro e w1 ⟨rfl, hw⟩
  have HC1 : Hid (Kd.string.C w1 (some ⟨w.heap.size, 0, none⟩) 10 kcs) := Lib.hid (hw ▸ C_str (at_alloc _ _ rfl) kcs (by simp) (by decide))
  have HB1 : Hid (Below w.heap.size w w1) := Lib.hid (by rw [← hw]; exact below_alloc (Below.refl _ _) _)
  clear hw
  have hb2 := below_alloc (Below.refl w1.heap.size w1) (.cells #[.int .i64 1, .int .i64 2, .int .i64 3, .int .i64 4, .int .i64 5, .int .i64 6, .int .i64 7, .int .i64 8, .int .i64 9, .int .i64 10] 3)
  have HC2 := Lib.hid (Kd.C_below HC1.out hb2)
  have HB2 := Lib.hid (below_step HB1.out hb2)
  clear hb2
  go_wp2_with fail
  refine (rmake_any (some ⟨w.heap.size, 0, none⟩) (some ⟨w1.heap.size, 0, none⟩) 10 10 10 10 kcs kns _ HC2.out (C_int (t := 3) (cur := #[.int .i64 1, .int .i64 2, .int .i64 3, .int .i64 4, .int .i64 5, .int .i64 6, .int .i64 7, .int .i64 8, .int .i64 9, .int .i64 10]) (at_alloc _ _ rfl) kns rfl (by decide)) kshort).mono ?_
  intro e w3 hm
  obtain ⟨p, rfl, ht⟩ := hm.tree kgood ((free_iff kgood).2 kapart)
  have HT := Lib.hid ht
  have HB3 := Lib.hid (below_step HB2.out hm.below)
  clear hm ht
  go_wp2
  go_ret
  exact ⟨_, p, rfl, HB3.out, HT.out⟩
theorem rkget_any (A : Option Addr) (nn cc : Nat) (bs : List Int) (i : Int) (w : World) (hB : Bytes w A nn bs) (h63 : i < 9223372036854775808) :
    Calls Try.prog 40 #[.slice A nn cc, .int .i64 i] w fun e w' => e = .returned (.tuple #[.int .i64 (ansAt kcs kns bs nn i).v, .int .i64 (ansAt kcs kns bs nn i).n, .int .i64 (ansAt kcs kns bs nn i).e]) ∧ Below w.heap.size w w' := by
  have HB := Lib.hid hB
  clear hB
  go_enter Try.func40, Try.ntmps40
  go_wp2_with fail
  refine (rktree_any w).mono ?_
  rintro e w1 ⟨B, p, rfl, hb, ht⟩
  have HT := Lib.hid ht
  have HB1 := Lib.hid hb
  clear hb ht
  go_wp2_with fail
  refine (rget_any A nn cc bs i w1 HT.out kgood (HB.out.below HB1.out) h63).mono ?_
  rintro e w2 ⟨rfl, hb⟩
  have HB2 := Lib.hid (below_step HB1.out hb)
  clear hb
  simp only []
  go_wp2
  go_ret3
  exact ⟨rfl, HB2.out⟩
theorem rkput_any (n : Int) (w : World) : Calls Try.prog 43 #[.int .i64 n] w fun e w' => e = .returned (.tuple #[.string (rlook kcs kns n).1, .int .i64 (rlook kcs kns n).2]) ∧ Below w.heap.size w w' := by
  go_enter Try.func43, Try.ntmps43
  go_wp2_with fail
  refine (rktree_any w).mono ?_
  rintro e w1 ⟨B, p, rfl, hb, ht⟩
  have HT := Lib.hid ht
  have HB1 := Lib.hid hb
  clear hb ht
  go_wp2_with fail
  refine (rput_any n w1 HT.out).mono ?_
  rintro e w2 ⟨rfl, rfl⟩
  go_wp2
  go_ret2
  exact ⟨rfl, HB1.out⟩

set_option maxRecDepth 100000 in
theorem rkof_1 (w : World) : Calls Try.prog 45 #[.int .i64 1] w fun e w' => e = .returned (.tuple #[.agg #[.bool true, .bool false, .bool false, .bool false, .bool false], .int .i64 0]) ∧ Below w.heap.size w w' := by
  go_enter Try.func45, Try.ntmps45
  go_wp2
  refine bodyPost_ret (v := .tuple #[.agg #[.bool true, .bool false, .bool false, .bool false, .bool false], .int .i64 0]) (by simp [results, Try.results45, go_sem]) rfl ⟨rfl, ?_⟩
  exact below_alloc (below_alloc (Below.refl _ _) _) _
set_option maxRecDepth 100000 in
theorem rkof_2 (w : World) : Calls Try.prog 45 #[.int .i64 2] w fun e w' => e = .returned (.tuple #[.agg #[.bool true, .bool true, .bool false, .bool false, .bool false], .int .i64 0]) ∧ Below w.heap.size w w' := by
  go_enter Try.func45, Try.ntmps45
  go_wp2
  refine bodyPost_ret (v := .tuple #[.agg #[.bool true, .bool true, .bool false, .bool false, .bool false], .int .i64 0]) (by simp [results, Try.results45, go_sem]) rfl ⟨rfl, ?_⟩
  exact below_alloc (below_alloc (Below.refl _ _) _) _
set_option maxRecDepth 100000 in
theorem rkof_3 (w : World) : Calls Try.prog 45 #[.int .i64 3] w fun e w' => e = .returned (.tuple #[.agg #[.bool false, .bool false, .bool false, .bool false, .bool true], .int .i64 0]) ∧ Below w.heap.size w w' := by
  go_enter Try.func45, Try.ntmps45
  go_wp2
  refine bodyPost_ret (v := .tuple #[.agg #[.bool false, .bool false, .bool false, .bool false, .bool true], .int .i64 0]) (by simp [results, Try.results45, go_sem]) rfl ⟨rfl, ?_⟩
  exact below_alloc (below_alloc (Below.refl _ _) _) _
set_option maxRecDepth 100000 in
theorem rkof_4 (w : World) : Calls Try.prog 45 #[.int .i64 4] w fun e w' => e = .returned (.tuple #[.agg #[.bool false, .bool true, .bool false, .bool false, .bool true], .int .i64 0]) ∧ Below w.heap.size w w' := by
  go_enter Try.func45, Try.ntmps45
  go_wp2
  refine bodyPost_ret (v := .tuple #[.agg #[.bool false, .bool true, .bool false, .bool false, .bool true], .int .i64 0]) (by simp [results, Try.results45, go_sem]) rfl ⟨rfl, ?_⟩
  exact below_alloc (below_alloc (Below.refl _ _) _) _
set_option maxRecDepth 100000 in
theorem rkof_5 (w : World) : Calls Try.prog 45 #[.int .i64 5] w fun e w' => e = .returned (.tuple #[.agg #[.bool false, .bool false, .bool true, .bool false, .bool false], .int .i64 0]) ∧ Below w.heap.size w w' := by
  go_enter Try.func45, Try.ntmps45
  go_wp2
  refine bodyPost_ret (v := .tuple #[.agg #[.bool false, .bool false, .bool true, .bool false, .bool false], .int .i64 0]) (by simp [results, Try.results45, go_sem]) rfl ⟨rfl, ?_⟩
  exact below_alloc (below_alloc (Below.refl _ _) _) _
set_option maxRecDepth 100000 in
theorem rkof_6 (w : World) : Calls Try.prog 45 #[.int .i64 6] w fun e w' => e = .returned (.tuple #[.agg #[.bool false, .bool false, .bool true, .bool false, .bool true], .int .i64 0]) ∧ Below w.heap.size w w' := by
  go_enter Try.func45, Try.ntmps45
  go_wp2
  refine bodyPost_ret (v := .tuple #[.agg #[.bool false, .bool false, .bool true, .bool false, .bool true], .int .i64 0]) (by simp [results, Try.results45, go_sem]) rfl ⟨rfl, ?_⟩
  exact below_alloc (below_alloc (Below.refl _ _) _) _
set_option maxRecDepth 100000 in
theorem rkof_7 (w : World) : Calls Try.prog 45 #[.int .i64 7] w fun e w' => e = .returned (.tuple #[.agg #[.bool false, .bool true, .bool true, .bool false, .bool true], .int .i64 0]) ∧ Below w.heap.size w w' := by
  go_enter Try.func45, Try.ntmps45
  go_wp2
  refine bodyPost_ret (v := .tuple #[.agg #[.bool false, .bool true, .bool true, .bool false, .bool true], .int .i64 0]) (by simp [results, Try.results45, go_sem]) rfl ⟨rfl, ?_⟩
  exact below_alloc (below_alloc (Below.refl _ _) _) _
set_option maxRecDepth 100000 in
theorem rkof_8 (w : World) : Calls Try.prog 45 #[.int .i64 8] w fun e w' => e = .returned (.tuple #[.agg #[.bool false, .bool false, .bool true, .bool true, .bool false], .int .i64 0]) ∧ Below w.heap.size w w' := by
  go_enter Try.func45, Try.ntmps45
  go_wp2
  refine bodyPost_ret (v := .tuple #[.agg #[.bool false, .bool false, .bool true, .bool true, .bool false], .int .i64 0]) (by simp [results, Try.results45, go_sem]) rfl ⟨rfl, ?_⟩
  exact below_alloc (below_alloc (Below.refl _ _) _) _
set_option maxRecDepth 100000 in
theorem rkof_9 (w : World) : Calls Try.prog 45 #[.int .i64 9] w fun e w' => e = .returned (.tuple #[.agg #[.bool false, .bool false, .bool true, .bool true, .bool true], .int .i64 0]) ∧ Below w.heap.size w w' := by
  go_enter Try.func45, Try.ntmps45
  go_wp2
  refine bodyPost_ret (v := .tuple #[.agg #[.bool false, .bool false, .bool true, .bool true, .bool true], .int .i64 0]) (by simp [results, Try.results45, go_sem]) rfl ⟨rfl, ?_⟩
  exact below_alloc (below_alloc (Below.refl _ _) _) _
set_option maxRecDepth 100000 in
theorem rkof_10 (w : World) : Calls Try.prog 45 #[.int .i64 10] w fun e w' => e = .returned (.tuple #[.agg #[.bool false, .bool true, .bool true, .bool true, .bool true], .int .i64 0]) ∧ Below w.heap.size w w' := by
  go_enter Try.func45, Try.ntmps45
  go_wp2
  refine bodyPost_ret (v := .tuple #[.agg #[.bool false, .bool true, .bool true, .bool true, .bool true], .int .i64 0]) (by simp [results, Try.results45, go_sem]) rfl ⟨rfl, ?_⟩
  exact below_alloc (below_alloc (Below.refl _ _) _) _
set_option maxRecDepth 100000 in
theorem rkof_out (n : Int) (w : World) (h : n < 1 ∨ 10 < n) : Calls Try.prog 45 #[.int .i64 n] w fun e w' => e = .returned (.tuple #[.agg #[.bool false, .bool false, .bool false, .bool false, .bool false], .int .i64 18]) ∧ Below w.heap.size w w' := by
  by_cases h1 : n < 1
  · clear h
    go_enter Try.func45, Try.ntmps45
    go_wp2
    refine bodyPost_ret (v := .tuple #[.agg #[.bool false, .bool false, .bool false, .bool false, .bool false], .int .i64 18]) (by simp [results, Try.results45, go_sem]) rfl ⟨rfl, ?_⟩
    exact below_alloc (Below.refl _ _) _
  · have h2 : 10 < n := by omega
    clear h
    go_enter Try.func45, Try.ntmps45
    go_wp2
    refine bodyPost_ret (v := .tuple #[.agg #[.bool false, .bool false, .bool false, .bool false, .bool false], .int .i64 18]) (by simp [results, Try.results45, go_sem]) rfl ⟨rfl, ?_⟩
    exact below_alloc (Below.refl _ _) _
theorem rkof_any (n : Int) (w : World) : Calls Try.prog 45 #[.int .i64 n] w fun e w' => e = .returned (.tuple #[(kof n).1, .int .i64 (kof n).2]) ∧ Below w.heap.size w w' := by
  by_cases h : n < 1 ∨ 10 < n
  · have : kof n = (knone, 18) := by unfold kof; rw [if_pos h]
    rw [this]
    exact rkof_out n w h
  · have h' : n = 1 ∨ n = 2 ∨ n = 3 ∨ n = 4 ∨ n = 5 ∨ n = 6 ∨ n = 7 ∨ n = 8 ∨ n = 9 ∨ n = 10 := by omega
    rcases h' with rfl | rfl | rfl | rfl | rfl | rfl | rfl | rfl | rfl | rfl
    · rw [show kof 1 = (.agg #[.bool true, .bool false, .bool false, .bool false, .bool false], 0) from rfl]; exact rkof_1 w
    · rw [show kof 2 = (.agg #[.bool true, .bool true, .bool false, .bool false, .bool false], 0) from rfl]; exact rkof_2 w
    · rw [show kof 3 = (.agg #[.bool false, .bool false, .bool false, .bool false, .bool true], 0) from rfl]; exact rkof_3 w
    · rw [show kof 4 = (.agg #[.bool false, .bool true, .bool false, .bool false, .bool true], 0) from rfl]; exact rkof_4 w
    · rw [show kof 5 = (.agg #[.bool false, .bool false, .bool true, .bool false, .bool false], 0) from rfl]; exact rkof_5 w
    · rw [show kof 6 = (.agg #[.bool false, .bool false, .bool true, .bool false, .bool true], 0) from rfl]; exact rkof_6 w
    · rw [show kof 7 = (.agg #[.bool false, .bool true, .bool true, .bool false, .bool true], 0) from rfl]; exact rkof_7 w
    · rw [show kof 8 = (.agg #[.bool false, .bool false, .bool true, .bool true, .bool false], 0) from rfl]; exact rkof_8 w
    · rw [show kof 9 = (.agg #[.bool false, .bool false, .bool true, .bool true, .bool true], 0) from rfl]; exact rkof_9 w
    · rw [show kof 10 = (.agg #[.bool false, .bool true, .bool true, .bool true, .bool true], 0) from rfl]; exact rkof_10 w
end Go.Proofs.Ythjfigaalknoiaa
