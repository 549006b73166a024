/- KindParts returns true: the walk. -/
import Derived.Test.YthjfigaalknoiaaKLaws
set_option linter.unusedVariables false
set_option linter.unusedSimpArgs false
namespace Go.Proofs.Ythjfigaalknoiaa
open Go.RowKit Go.Proofs.YthjfigaalknoiaaW.PrintWords Pt

theorem kof_out {n : Int} (h : n < 1 ∨ 10 < n) : kof n = (.agg #[.bool false, .bool false, .bool false, .bool false, .bool false], 18) := by unfold kof; rw [if_pos h]; rfl
theorem rlook_out {n : Int} (h : n < 1 ∨ 10 < n) : rlook kcs kns n = (⟨#[]⟩, 18) := by
  rw [← find_zip]
  have : (kcs.zip kns).find? (fun c => c.2 == n) = none := by
    rw [List.find?_eq_none]
    intro c hc
    have h2 : ∀ c ∈ kcs.zip kns, 1 ≤ c.2 ∧ c.2 ≤ 10 := by decide +kernel
    have := h2 c hc
    simp only [beq_iff_eq]
    omega
  rw [this]
/-- What a kind's parts are by the chapter. -/
def kgoodB (p1 p2 p3 p4 p5 : Bool) : Bool := (!p4 || p3) && (!p2 || p1 || p5) && (!p1 || !p5 && !p3)
/-- The ten kinds: their codes and parts. -/
structure KK (n : Int) (c : ByteArray) (p1 p2 p3 p4 p5 : Bool) : Prop where
  of : kof n = (.agg #[.bool p1, .bool p2, .bool p3, .bool p4, .bool p5], 0)
  put : rlook kcs kns n = (c, 0)
  good : kgoodB p1 p2 p3 p4 p5 = true
def kkc (k : Nat) : ByteArray := kcs.getD k ⟨#[]⟩
def kkp (k j : Nat) : Bool := match (kparts.getD k knone) with | .agg cs => (match cs.getD j undef with | .bool b => b | _ => false) | _ => false
theorem kk_at : ∀ k : Nat, k < 10 → KK ((k : Int) + 1) (kkc k) (kkp k 0) (kkp k 1) (kkp k 2) (kkp k 3) (kkp k 4)
  | 0, _ => ⟨rfl, by decide +kernel, by decide +kernel⟩
  | 1, _ => ⟨rfl, by decide +kernel, by decide +kernel⟩
  | 2, _ => ⟨rfl, by decide +kernel, by decide +kernel⟩
  | 3, _ => ⟨rfl, by decide +kernel, by decide +kernel⟩
  | 4, _ => ⟨rfl, by decide +kernel, by decide +kernel⟩
  | 5, _ => ⟨rfl, by decide +kernel, by decide +kernel⟩
  | 6, _ => ⟨rfl, by decide +kernel, by decide +kernel⟩
  | 7, _ => ⟨rfl, by decide +kernel, by decide +kernel⟩
  | 8, _ => ⟨rfl, by decide +kernel, by decide +kernel⟩
  | 9, _ => ⟨rfl, by decide +kernel, by decide +kernel⟩
  | n + 10, h => by omega
theorem kk_ne : ∀ i : Fin 10, ∀ j : Fin 10, i ≠ j → ((kkc i.1).toList == (kkc j.1).toList) = false ∧ (kkp i.1 0 == kkp j.1 0 && kkp i.1 1 == kkp j.1 1 && kkp i.1 2 == kkp j.1 2 && kkp i.1 3 == kkp j.1 3 && kkp i.1 4 == kkp j.1 4) = false := by decide +kernel

set_option maxRecDepth 100000 in
set_option maxHeartbeats 2000000 in
theorem kparts_a (a b : Int) (w : World) (ha : a < 1 ∨ 10 < a) : Calls Try.prog 10 #[.int .i64 a, .int .i64 b] w fun e w' => e = .returned (.bool true) ∧ Below w.heap.size w w' := by
  obtain ⟨q1, q2, q3, q4, q5, er, hkb⟩ := kof_form b
  obtain ⟨d, hub⟩ : ∃ d, rlook kcs kns b = (d, er) := by
    by_cases h : b < 1 ∨ 10 < b
    · rw [kof_out h] at hkb
      injection hkb with _ h2
      exact ⟨_, by rw [rlook_out h, h2]⟩
    · obtain ⟨k, rfl⟩ : ∃ k : Nat, b = (k : Int) + 1 := ⟨(b - 1).toNat, by omega⟩
      have hk := kk_at k (by omega)
      rw [hk.of] at hkb
      injection hkb with _ h2
      exact ⟨_, by rw [hk.put, h2]⟩
  have HKA := Lib.hid (kof_out ha)
  have HUA := Lib.hid (rlook_out ha)
  have HKB := Lib.hid hkb
  have HUB := Lib.hid hub
  clear hkb hub
  have b3 : (er != er) = false := by simp
  by_cases h1 : 1 ≤ a
  · have h2 : ¬ a ≤ 10 := by omega
    clear ha
    go_enter Try.func10, Try.ntmps10
    go_wp2_with fail
    refine (awake5_any w).mono ?_
    rintro e w1 ⟨rfl, hb⟩
    have HB1 := Lib.hid hb
    clear hb
    go_wp2_with fail
    refine (kof_any a w1).mono ?_
    rw [HKA.out]
    rintro e w2 ⟨rfl, hb⟩
    have HB2 := Lib.hid (below_step HB1.out hb)
    clear hb
    go_wp2_with fail
    refine (kof_any b _).mono ?_
    rw [HKB.out]
    rintro e w3 ⟨rfl, hb⟩
    have HB3 := Lib.hid (below_step (below_alloc HB2.out _) hb)
    clear hb
    go_wp2_with fail
    refine (kput_any a _).mono ?_
    rw [HUA.out]
    rintro e w4 ⟨rfl, hb⟩
    have HB4 := Lib.hid (below_step (below_alloc HB3.out _) hb)
    clear hb
    go_wp2_with fail
    refine (kput_any b _).mono ?_
    rw [HUB.out]
    rintro e w5 ⟨rfl, hb⟩
    have HB5 := Lib.hid (below_step HB4.out hb)
    clear hb
    go_wp2
    go_ret
    exact ⟨rfl, HB5.out⟩
  · clear ha
    go_enter Try.func10, Try.ntmps10
    go_wp2_with fail
    refine (awake5_any w).mono ?_
    rintro e w1 ⟨rfl, hb⟩
    have HB1 := Lib.hid hb
    clear hb
    go_wp2_with fail
    refine (kof_any a w1).mono ?_
    rw [HKA.out]
    rintro e w2 ⟨rfl, hb⟩
    have HB2 := Lib.hid (below_step HB1.out hb)
    clear hb
    go_wp2_with fail
    refine (kof_any b _).mono ?_
    rw [HKB.out]
    rintro e w3 ⟨rfl, hb⟩
    have HB3 := Lib.hid (below_step (below_alloc HB2.out _) hb)
    clear hb
    go_wp2_with fail
    refine (kput_any a _).mono ?_
    rw [HUA.out]
    rintro e w4 ⟨rfl, hb⟩
    have HB4 := Lib.hid (below_step (below_alloc HB3.out _) hb)
    clear hb
    go_wp2_with fail
    refine (kput_any b _).mono ?_
    rw [HUB.out]
    rintro e w5 ⟨rfl, hb⟩
    have HB5 := Lib.hid (below_step HB4.out hb)
    clear hb
    go_wp2
    go_ret
    exact ⟨rfl, HB5.out⟩

set_option maxRecDepth 100000 in
set_option maxHeartbeats 4000000 in
theorem kparts_b (a b : Int) (w : World) (c : ByteArray) (p1 p2 p3 p4 p5 : Bool) (ha1 : 1 ≤ a) (ha2 : a ≤ 10) (hA : KK a c p1 p2 p3 p4 p5) (hb : b < 1 ∨ 10 < b) : Calls Try.prog 10 #[.int .i64 a, .int .i64 b] w fun e w' => e = .returned (.bool true) ∧ Below w.heap.size w w' := by
  have HA := Lib.hid hA
  have HKB := Lib.hid (kof_out hb)
  have HUB := Lib.hid (rlook_out hb)
  clear hA hb
  go_enter Try.func10, Try.ntmps10
  go_wp2_with fail
  refine (awake5_any w).mono ?_
  rintro e w1 ⟨rfl, hb⟩
  have HB1 := Lib.hid hb
  clear hb
  go_wp2_with fail
  refine (kof_any a w1).mono ?_
  rw [HA.out.of]
  rintro e w2 ⟨rfl, hb⟩
  have HB2 := Lib.hid (below_step HB1.out hb)
  clear hb
  go_wp2_with fail
  refine (kof_any b _).mono ?_
  rw [HKB.out]
  rintro e w3 ⟨rfl, hb⟩
  have HB3 := Lib.hid (below_step (below_alloc HB2.out _) hb)
  clear hb
  go_wp2_with fail
  refine (kput_any a _).mono ?_
  rw [HA.out.put]
  rintro e w4 ⟨rfl, hb⟩
  have HB4 := Lib.hid (below_step (below_alloc HB3.out _) hb)
  clear hb
  go_wp2_with fail
  refine (kput_any b _).mono ?_
  rw [HUB.out]
  rintro e w5 ⟨rfl, hb⟩
  have HB5 := Lib.hid (below_step HB4.out hb)
  clear hb
  go_wp2
  go_ret
  exact ⟨rfl, HB5.out⟩

set_option maxRecDepth 100000 in
set_option maxHeartbeats 8000000 in
theorem kparts_c (a b : Int) (w : World) (c d : ByteArray) (p1 p2 p3 p4 p5 q1 q2 q3 q4 q5 : Bool) (ha1 : 1 ≤ a) (ha2 : a ≤ 10) (hA : KK a c p1 p2 p3 p4 p5) (hB : KK b d q1 q2 q3 q4 q5)
    (hne : (a == b) = false) (hcd : (c.toList == d.toList) = false) (hpq : (p1 == q1 && p2 == q2 && p3 == q3 && p4 == q4 && p5 == q5) = false) :
    Calls Try.prog 10 #[.int .i64 a, .int .i64 b] w fun e w' => e = .returned (.bool true) ∧ Below w.heap.size w w' := by
  have HA := Lib.hid hA
  have HKB := Lib.hid hB.of
  have HUB := Lib.hid hB.put
  have hg := hA.good
  clear hA hB
  have heq := fun W => eq63 p1 p2 p3 p4 p5 q1 q2 q3 q4 q5 W
  rw [hpq] at heq
  clear hpq
  go_enter Try.func10, Try.ntmps10
  go_wp2_with fail
  refine (awake5_any w).mono ?_
  rintro e w1 ⟨rfl, hb⟩
  have HB1 := Lib.hid hb
  clear hb
  go_wp2_with fail
  refine (kof_any a w1).mono ?_
  rw [HA.out.of]
  rintro e w2 ⟨rfl, hb⟩
  have HB2 := Lib.hid (below_step HB1.out hb)
  clear hb
  go_wp2_with fail
  refine (kof_any b _).mono ?_
  rw [HKB.out]
  rintro e w3 ⟨rfl, hb⟩
  have hG1 := (hb.block w2.heap.size (by simp)).trans (at_alloc w2 (.cells #[.bool p1, .bool p2, .bool p3, .bool p4, .bool p5] 63) rfl)
  have HG1 := Lib.hid hG1
  have HB3 := Lib.hid (below_step (below_alloc HB2.out _) hb)
  clear hb hG1
  go_wp2_with fail
  refine (kput_any a _).mono ?_
  rw [HA.out.put]
  rintro e w4 ⟨rfl, hb⟩
  have HG2 := Lib.hid ((hb.block w3.heap.size (by simp)).trans (at_alloc w3 (.cells #[.bool q1, .bool q2, .bool q3, .bool q4, .bool q5] 63) rfl))
  have HG3 := Lib.hid ((hb.block w2.heap.size (by simp; have := (Array.getElem?_eq_some_iff.1 HG1.out).1; omega)).trans (at_old HG1.out))
  have HB4 := Lib.hid (below_step (below_alloc HB3.out _) hb)
  clear hb
  go_wp2_with fail
  refine (kput_any b _).mono ?_
  rw [HUB.out]
  rintro e w5 ⟨rfl, hb⟩
  have hG2 := (hb.block w3.heap.size (Array.getElem?_eq_some_iff.1 HG2.out).1).trans HG2.out
  have hG1 := (hb.block w2.heap.size (Array.getElem?_eq_some_iff.1 HG3.out).1).trans HG3.out
  have HB5 := Lib.hid (below_step HB4.out hb)
  have c10 : w5.cell? ⟨w2.heap.size, 0, none⟩ = some (.bool p1) := by rw [cell_of_heap hG1]; rfl
  have c11 : w5.cell? ⟨w2.heap.size, 1, none⟩ = some (.bool p2) := by rw [cell_of_heap hG1]; rfl
  have c12 : w5.cell? ⟨w2.heap.size, 2, none⟩ = some (.bool p3) := by rw [cell_of_heap hG1]; rfl
  have c13 : w5.cell? ⟨w2.heap.size, 3, none⟩ = some (.bool p4) := by rw [cell_of_heap hG1]; rfl
  have c14 : w5.cell? ⟨w2.heap.size, 4, none⟩ = some (.bool p5) := by rw [cell_of_heap hG1]; rfl
  have c20 : w5.cell? ⟨w3.heap.size, 0, none⟩ = some (.bool q1) := by rw [cell_of_heap hG2]; rfl
  have c21 : w5.cell? ⟨w3.heap.size, 1, none⟩ = some (.bool q2) := by rw [cell_of_heap hG2]; rfl
  have c22 : w5.cell? ⟨w3.heap.size, 2, none⟩ = some (.bool q3) := by rw [cell_of_heap hG2]; rfl
  have c23 : w5.cell? ⟨w3.heap.size, 3, none⟩ = some (.bool q4) := by rw [cell_of_heap hG2]; rfl
  have c24 : w5.cell? ⟨w3.heap.size, 4, none⟩ = some (.bool q5) := by rw [cell_of_heap hG2]; rfl
  clear hb hG1 hG2
  cases p1 <;> cases p2 <;> cases p3 <;> cases p4 <;> cases p5 <;> first | (exact absurd hg (by decide)) | skip
  all_goals
    clear hg
    go_wp2
    go_ret
    exact ⟨rfl, HB5.out⟩

set_option maxRecDepth 100000 in
set_option maxHeartbeats 8000000 in
theorem kparts_d (a b : Int) (w : World) (c : ByteArray) (p1 p2 p3 p4 p5 q1 q2 q3 q4 q5 : Bool) (ha1 : 1 ≤ a) (ha2 : a ≤ 10) (hA : KK a c p1 p2 p3 p4 p5) (hab : (a == b) = true)
    (hB : KK b c q1 q2 q3 q4 q5) (hpq : (p1 == q1 && p2 == q2 && p3 == q3 && p4 == q4 && p5 == q5) = true) :
    Calls Try.prog 10 #[.int .i64 a, .int .i64 b] w fun e w' => e = .returned (.bool true) ∧ Below w.heap.size w w' := by
  have HA := Lib.hid hA
  have HKB := Lib.hid hB.of
  have HUB := Lib.hid hB.put
  have hg := hA.good
  clear hA hB
  have heq := fun W => eq63 p1 p2 p3 p4 p5 q1 q2 q3 q4 q5 W
  rw [hpq] at heq
  clear hpq
  go_enter Try.func10, Try.ntmps10
  go_wp2_with fail
  refine (awake5_any w).mono ?_
  rintro e w1 ⟨rfl, hb⟩
  have HB1 := Lib.hid hb
  clear hb
  go_wp2_with fail
  refine (kof_any a w1).mono ?_
  rw [HA.out.of]
  rintro e w2 ⟨rfl, hb⟩
  have HB2 := Lib.hid (below_step HB1.out hb)
  clear hb
  go_wp2_with fail
  refine (kof_any b _).mono ?_
  rw [HKB.out]
  rintro e w3 ⟨rfl, hb⟩
  have hG1 := (hb.block w2.heap.size (by simp)).trans (at_alloc w2 (.cells #[.bool p1, .bool p2, .bool p3, .bool p4, .bool p5] 63) rfl)
  have HG1 := Lib.hid hG1
  have HB3 := Lib.hid (below_step (below_alloc HB2.out _) hb)
  clear hb hG1
  go_wp2_with fail
  refine (kput_any a _).mono ?_
  rw [HA.out.put]
  rintro e w4 ⟨rfl, hb⟩
  have HG2 := Lib.hid ((hb.block w3.heap.size (by simp)).trans (at_alloc w3 (.cells #[.bool q1, .bool q2, .bool q3, .bool q4, .bool q5] 63) rfl))
  have HG3 := Lib.hid ((hb.block w2.heap.size (by simp; have := (Array.getElem?_eq_some_iff.1 HG1.out).1; omega)).trans (at_old HG1.out))
  have HB4 := Lib.hid (below_step (below_alloc HB3.out _) hb)
  clear hb
  go_wp2_with fail
  refine (kput_any b _).mono ?_
  rw [HUB.out]
  rintro e w5 ⟨rfl, hb⟩
  have hG2 := (hb.block w3.heap.size (Array.getElem?_eq_some_iff.1 HG2.out).1).trans HG2.out
  have hG1 := (hb.block w2.heap.size (Array.getElem?_eq_some_iff.1 HG3.out).1).trans HG3.out
  have HB5 := Lib.hid (below_step HB4.out hb)
  have c10 : w5.cell? ⟨w2.heap.size, 0, none⟩ = some (.bool p1) := by rw [cell_of_heap hG1]; rfl
  have c11 : w5.cell? ⟨w2.heap.size, 1, none⟩ = some (.bool p2) := by rw [cell_of_heap hG1]; rfl
  have c12 : w5.cell? ⟨w2.heap.size, 2, none⟩ = some (.bool p3) := by rw [cell_of_heap hG1]; rfl
  have c13 : w5.cell? ⟨w2.heap.size, 3, none⟩ = some (.bool p4) := by rw [cell_of_heap hG1]; rfl
  have c14 : w5.cell? ⟨w2.heap.size, 4, none⟩ = some (.bool p5) := by rw [cell_of_heap hG1]; rfl
  have c20 : w5.cell? ⟨w3.heap.size, 0, none⟩ = some (.bool q1) := by rw [cell_of_heap hG2]; rfl
  have c21 : w5.cell? ⟨w3.heap.size, 1, none⟩ = some (.bool q2) := by rw [cell_of_heap hG2]; rfl
  have c22 : w5.cell? ⟨w3.heap.size, 2, none⟩ = some (.bool q3) := by rw [cell_of_heap hG2]; rfl
  have c23 : w5.cell? ⟨w3.heap.size, 3, none⟩ = some (.bool q4) := by rw [cell_of_heap hG2]; rfl
  have c24 : w5.cell? ⟨w3.heap.size, 4, none⟩ = some (.bool q5) := by rw [cell_of_heap hG2]; rfl
  clear hb hG1 hG2
  cases p1 <;> cases p2 <;> cases p3 <;> cases p4 <;> cases p5 <;> first | (exact absurd hg (by decide)) | skip
  all_goals
    clear hg
    go_wp2
    go_ret
    exact ⟨rfl, HB5.out⟩

theorem kparts_any (a b : Int) (w : World) : Calls Try.prog 10 #[.int .i64 a, .int .i64 b] w fun e w' => e = .returned (.bool true) ∧ Below w.heap.size w w' := by
  by_cases ha : a < 1 ∨ 10 < a
  · exact kparts_a a b w ha
  · obtain ⟨i, rfl⟩ : ∃ i : Nat, a = (i : Int) + 1 := ⟨(a - 1).toNat, by omega⟩
    by_cases hb : b < 1 ∨ 10 < b
    · exact kparts_b _ b w _ _ _ _ _ _ (by omega) (by omega) (kk_at i (by omega)) hb
    · obtain ⟨j, rfl⟩ : ∃ j : Nat, b = (j : Int) + 1 := ⟨(b - 1).toNat, by omega⟩
      by_cases hij : i = j
      · subst hij
        exact kparts_d _ _ w _ _ _ _ _ _ _ _ _ _ _ (by omega) (by omega) (kk_at i (by omega)) (by simp) (kk_at i (by omega)) (by simp)
      · obtain ⟨h1, h2⟩ := kk_ne ⟨i, by omega⟩ ⟨j, by omega⟩ (fun h => hij (congrArg Fin.val h))
        exact kparts_c _ _ w _ _ _ _ _ _ _ _ _ _ _ _ (by omega) (by omega) (kk_at i (by omega)) (kk_at j (by omega)) (by rw [beq_eq_false_iff_ne]; omega) h1 h2
end Go.Proofs.Ythjfigaalknoiaa
