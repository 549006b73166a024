/- pattern.Has and Count, the reference's too: which blocks a pattern says. -/
import Derived.Test.YthjfigaalknoiaaDoorPTree
set_option linter.unusedVariables false
set_option linter.unusedSimpArgs false
namespace Go.Proofs.YthjfigaalknoiaaDoor
open Go.RowKit Go.Proofs.YthjfigaalknoiaaDoorW.PrintWords Pt

def pin (n b : Int) : Prop := 1 ≤ n ∧ n ≤ 63 ∧ 1 ≤ b ∧ b ≤ 6
instance (n b : Int) : Decidable (pin n b) := by unfold pin; exact inferInstance
/-- Does a pattern say a block? -/
def phas (n b : Int) : Bool := decide (pin n b) && (n / 2 ^ (6 - b).toNat % 2 == 1)
theorem and_bit : ∀ n : Fin 64, ∀ k : Fin 6, (bits .and .i64 ((n.1 : Nat) : Int) (2 ^ k.1) != 0) = (((n.1 : Nat) : Int) / 2 ^ k.1 % 2 == 1) := by decide +kernel
theorem phas_out {n b : Int} (h : ¬ pin n b) : phas n b = false := by unfold phas; simp [h]
theorem phas_in {n b : Int} (h : pin n b) (k : Nat) (hk : b = 6 - (k : Int)) (hk5 : k < 6) : (bits .and .i64 n (2 ^ k) != 0) = phas n b ∧ phas n b = (n / 2 ^ k % 2 == 1) := by
  obtain ⟨h1, h2, h3, h4⟩ := h
  obtain ⟨m, rfl⟩ : ∃ m : Nat, n = (m : Int) := ⟨n.toNat, by omega⟩
  have := and_bit ⟨m, by omega⟩ ⟨k, hk5⟩
  have e : (6 - b).toNat = k := by omega
  have hp : phas (m : Int) b = ((m : Int) / 2 ^ k % 2 == 1) := by
    unfold phas
    rw [e]
    have : decide (pin (m : Int) b) = true := by simp; exact ⟨h1, h2, h3, h4⟩
    rw [this]
    rfl
  exact ⟨this.trans hp.symm, hp⟩
set_option maxRecDepth 100000 in
theorem has_1 (n : Int) (w : World) (h1 : 1 ≤ n) (h2 : n ≤ 63) : Calls Tryd.prog 21 #[.int .i64 n, .int .i64 1] w fun e w' => e = .returned (.bool (phas n 1)) ∧ Below w.heap.size w w' := by
  obtain ⟨hb, hq⟩ := phas_in (n := n) (b := 1) ⟨h1, h2, by omega, by omega⟩ 5 (by omega) (by omega)
  obtain ⟨t, ht⟩ : ∃ t, phas n 1 = t := ⟨_, rfl⟩
  rw [ht] at hb ⊢
  simp only [Int.reducePow] at hb
  clear ht hq
  go_enter Tryd.func21, Tryd.ntmps21
  go_wp2
  go_ret
  exact ⟨rfl, below_alloc (Below.refl _ _) _⟩
set_option maxRecDepth 100000 in
theorem rhas_1 (n : Int) (w : World) (h1 : 1 ≤ n) (h2 : n ≤ 63) : Calls Tryd.prog 22 #[.int .i64 n, .int .i64 1] w fun e w' => e = .returned (.bool (phas n 1)) ∧ w = w' := by
  obtain ⟨hb, hq⟩ := phas_in (n := n) (b := 1) ⟨h1, h2, by omega, by omega⟩ 5 (by omega) (by omega)
  obtain ⟨t, ht⟩ : ∃ t, phas n 1 = t := ⟨_, rfl⟩
  rw [ht] at hq ⊢
  simp only [Int.reducePow, Int.ediv_one] at hq
  have hq2 := hq.symm
  clear ht hb hq
  go_enter Tryd.func22, Tryd.ntmps22
  go_wp2
  go_ret
  exact ⟨rfl, rfl⟩
set_option maxRecDepth 100000 in
theorem has_2 (n : Int) (w : World) (h1 : 1 ≤ n) (h2 : n ≤ 63) : Calls Tryd.prog 21 #[.int .i64 n, .int .i64 2] w fun e w' => e = .returned (.bool (phas n 2)) ∧ Below w.heap.size w w' := by
  obtain ⟨hb, hq⟩ := phas_in (n := n) (b := 2) ⟨h1, h2, by omega, by omega⟩ 4 (by omega) (by omega)
  obtain ⟨t, ht⟩ : ∃ t, phas n 2 = t := ⟨_, rfl⟩
  rw [ht] at hb ⊢
  simp only [Int.reducePow] at hb
  clear ht hq
  go_enter Tryd.func21, Tryd.ntmps21
  go_wp2
  go_ret
  exact ⟨rfl, below_alloc (Below.refl _ _) _⟩
set_option maxRecDepth 100000 in
theorem rhas_2 (n : Int) (w : World) (h1 : 1 ≤ n) (h2 : n ≤ 63) : Calls Tryd.prog 22 #[.int .i64 n, .int .i64 2] w fun e w' => e = .returned (.bool (phas n 2)) ∧ w = w' := by
  obtain ⟨hb, hq⟩ := phas_in (n := n) (b := 2) ⟨h1, h2, by omega, by omega⟩ 4 (by omega) (by omega)
  obtain ⟨t, ht⟩ : ∃ t, phas n 2 = t := ⟨_, rfl⟩
  rw [ht] at hq ⊢
  simp only [Int.reducePow, Int.ediv_one] at hq
  have hq2 := hq.symm
  clear ht hb hq
  go_enter Tryd.func22, Tryd.ntmps22
  go_wp2
  go_ret
  exact ⟨rfl, rfl⟩
set_option maxRecDepth 100000 in
theorem has_3 (n : Int) (w : World) (h1 : 1 ≤ n) (h2 : n ≤ 63) : Calls Tryd.prog 21 #[.int .i64 n, .int .i64 3] w fun e w' => e = .returned (.bool (phas n 3)) ∧ Below w.heap.size w w' := by
  obtain ⟨hb, hq⟩ := phas_in (n := n) (b := 3) ⟨h1, h2, by omega, by omega⟩ 3 (by omega) (by omega)
  obtain ⟨t, ht⟩ : ∃ t, phas n 3 = t := ⟨_, rfl⟩
  rw [ht] at hb ⊢
  simp only [Int.reducePow] at hb
  clear ht hq
  go_enter Tryd.func21, Tryd.ntmps21
  go_wp2
  go_ret
  exact ⟨rfl, below_alloc (Below.refl _ _) _⟩
set_option maxRecDepth 100000 in
theorem rhas_3 (n : Int) (w : World) (h1 : 1 ≤ n) (h2 : n ≤ 63) : Calls Tryd.prog 22 #[.int .i64 n, .int .i64 3] w fun e w' => e = .returned (.bool (phas n 3)) ∧ w = w' := by
  obtain ⟨hb, hq⟩ := phas_in (n := n) (b := 3) ⟨h1, h2, by omega, by omega⟩ 3 (by omega) (by omega)
  obtain ⟨t, ht⟩ : ∃ t, phas n 3 = t := ⟨_, rfl⟩
  rw [ht] at hq ⊢
  simp only [Int.reducePow, Int.ediv_one] at hq
  have hq2 := hq.symm
  clear ht hb hq
  go_enter Tryd.func22, Tryd.ntmps22
  go_wp2
  go_ret
  exact ⟨rfl, rfl⟩
set_option maxRecDepth 100000 in
theorem has_4 (n : Int) (w : World) (h1 : 1 ≤ n) (h2 : n ≤ 63) : Calls Tryd.prog 21 #[.int .i64 n, .int .i64 4] w fun e w' => e = .returned (.bool (phas n 4)) ∧ Below w.heap.size w w' := by
  obtain ⟨hb, hq⟩ := phas_in (n := n) (b := 4) ⟨h1, h2, by omega, by omega⟩ 2 (by omega) (by omega)
  obtain ⟨t, ht⟩ : ∃ t, phas n 4 = t := ⟨_, rfl⟩
  rw [ht] at hb ⊢
  simp only [Int.reducePow] at hb
  clear ht hq
  go_enter Tryd.func21, Tryd.ntmps21
  go_wp2
  go_ret
  exact ⟨rfl, below_alloc (Below.refl _ _) _⟩
set_option maxRecDepth 100000 in
theorem rhas_4 (n : Int) (w : World) (h1 : 1 ≤ n) (h2 : n ≤ 63) : Calls Tryd.prog 22 #[.int .i64 n, .int .i64 4] w fun e w' => e = .returned (.bool (phas n 4)) ∧ w = w' := by
  obtain ⟨hb, hq⟩ := phas_in (n := n) (b := 4) ⟨h1, h2, by omega, by omega⟩ 2 (by omega) (by omega)
  obtain ⟨t, ht⟩ : ∃ t, phas n 4 = t := ⟨_, rfl⟩
  rw [ht] at hq ⊢
  simp only [Int.reducePow, Int.ediv_one] at hq
  have hq2 := hq.symm
  clear ht hb hq
  go_enter Tryd.func22, Tryd.ntmps22
  go_wp2
  go_ret
  exact ⟨rfl, rfl⟩
set_option maxRecDepth 100000 in
theorem has_5 (n : Int) (w : World) (h1 : 1 ≤ n) (h2 : n ≤ 63) : Calls Tryd.prog 21 #[.int .i64 n, .int .i64 5] w fun e w' => e = .returned (.bool (phas n 5)) ∧ Below w.heap.size w w' := by
  obtain ⟨hb, hq⟩ := phas_in (n := n) (b := 5) ⟨h1, h2, by omega, by omega⟩ 1 (by omega) (by omega)
  obtain ⟨t, ht⟩ : ∃ t, phas n 5 = t := ⟨_, rfl⟩
  rw [ht] at hb ⊢
  simp only [Int.reducePow] at hb
  clear ht hq
  go_enter Tryd.func21, Tryd.ntmps21
  go_wp2
  go_ret
  exact ⟨rfl, below_alloc (Below.refl _ _) _⟩
set_option maxRecDepth 100000 in
theorem rhas_5 (n : Int) (w : World) (h1 : 1 ≤ n) (h2 : n ≤ 63) : Calls Tryd.prog 22 #[.int .i64 n, .int .i64 5] w fun e w' => e = .returned (.bool (phas n 5)) ∧ w = w' := by
  obtain ⟨hb, hq⟩ := phas_in (n := n) (b := 5) ⟨h1, h2, by omega, by omega⟩ 1 (by omega) (by omega)
  obtain ⟨t, ht⟩ : ∃ t, phas n 5 = t := ⟨_, rfl⟩
  rw [ht] at hq ⊢
  simp only [Int.reducePow, Int.ediv_one] at hq
  have hq2 := hq.symm
  clear ht hb hq
  go_enter Tryd.func22, Tryd.ntmps22
  go_wp2
  go_ret
  exact ⟨rfl, rfl⟩
set_option maxRecDepth 100000 in
theorem has_6 (n : Int) (w : World) (h1 : 1 ≤ n) (h2 : n ≤ 63) : Calls Tryd.prog 21 #[.int .i64 n, .int .i64 6] w fun e w' => e = .returned (.bool (phas n 6)) ∧ Below w.heap.size w w' := by
  obtain ⟨hb, hq⟩ := phas_in (n := n) (b := 6) ⟨h1, h2, by omega, by omega⟩ 0 (by omega) (by omega)
  obtain ⟨t, ht⟩ : ∃ t, phas n 6 = t := ⟨_, rfl⟩
  rw [ht] at hb ⊢
  simp only [Int.reducePow] at hb
  clear ht hq
  go_enter Tryd.func21, Tryd.ntmps21
  go_wp2
  go_ret
  exact ⟨rfl, below_alloc (Below.refl _ _) _⟩
set_option maxRecDepth 100000 in
theorem rhas_6 (n : Int) (w : World) (h1 : 1 ≤ n) (h2 : n ≤ 63) : Calls Tryd.prog 22 #[.int .i64 n, .int .i64 6] w fun e w' => e = .returned (.bool (phas n 6)) ∧ w = w' := by
  obtain ⟨hb, hq⟩ := phas_in (n := n) (b := 6) ⟨h1, h2, by omega, by omega⟩ 0 (by omega) (by omega)
  obtain ⟨t, ht⟩ : ∃ t, phas n 6 = t := ⟨_, rfl⟩
  rw [ht] at hq ⊢
  simp only [Int.reducePow, Int.ediv_one] at hq
  have hq2 := hq.symm
  clear ht hb hq
  go_enter Tryd.func22, Tryd.ntmps22
  go_wp2
  go_ret
  exact ⟨rfl, rfl⟩
set_option maxRecDepth 100000 in
theorem has21_a (n b : Int) (w : World) (h : n < 1) : Calls Tryd.prog 21 #[.int .i64 n, .int .i64 b] w fun e w' => e = .returned (.bool false) ∧ Below w.heap.size w w' := by
  have h1 : ¬ 1 ≤ n := by omega
  go_enter Tryd.func21, Tryd.ntmps21
  go_wp2
  go_ret
  exact ⟨rfl, below_alloc (Below.refl _ _) _⟩
set_option maxRecDepth 100000 in
theorem has22_a (n b : Int) (w : World) (h : n < 1) : Calls Tryd.prog 22 #[.int .i64 n, .int .i64 b] w fun e w' => e = .returned (.bool false) ∧ w = w' := by
  have h1 : ¬ 1 ≤ n := by omega
  go_enter Tryd.func22, Tryd.ntmps22
  go_wp2
  go_ret
  exact ⟨rfl, rfl⟩
set_option maxRecDepth 100000 in
theorem has21_b (n b : Int) (w : World) (h : 63 < n) : Calls Tryd.prog 21 #[.int .i64 n, .int .i64 b] w fun e w' => e = .returned (.bool false) ∧ Below w.heap.size w w' := by
  have h1 : 1 ≤ n := by omega
  have h2 : ¬ n ≤ 63 := by omega
  go_enter Tryd.func21, Tryd.ntmps21
  go_wp2
  go_ret
  exact ⟨rfl, below_alloc (Below.refl _ _) _⟩
set_option maxRecDepth 100000 in
theorem has22_b (n b : Int) (w : World) (h : 63 < n) : Calls Tryd.prog 22 #[.int .i64 n, .int .i64 b] w fun e w' => e = .returned (.bool false) ∧ w = w' := by
  have h1 : 1 ≤ n := by omega
  have h2 : ¬ n ≤ 63 := by omega
  go_enter Tryd.func22, Tryd.ntmps22
  go_wp2
  go_ret
  exact ⟨rfl, rfl⟩
set_option maxRecDepth 100000 in
theorem has21_c (n b : Int) (w : World) (h : b < 1) (h1 : 1 ≤ n) (h2 : n ≤ 63) : Calls Tryd.prog 21 #[.int .i64 n, .int .i64 b] w fun e w' => e = .returned (.bool false) ∧ Below w.heap.size w w' := by
  have h3 : ¬ 1 ≤ b := by omega
  go_enter Tryd.func21, Tryd.ntmps21
  go_wp2
  go_ret
  exact ⟨rfl, below_alloc (Below.refl _ _) _⟩
set_option maxRecDepth 100000 in
theorem has22_c (n b : Int) (w : World) (h : b < 1) (h1 : 1 ≤ n) (h2 : n ≤ 63) : Calls Tryd.prog 22 #[.int .i64 n, .int .i64 b] w fun e w' => e = .returned (.bool false) ∧ w = w' := by
  have h3 : ¬ 1 ≤ b := by omega
  go_enter Tryd.func22, Tryd.ntmps22
  go_wp2
  go_ret
  exact ⟨rfl, rfl⟩
set_option maxRecDepth 100000 in
theorem has21_d (n b : Int) (w : World) (h : 6 < b) (h1 : 1 ≤ n) (h2 : n ≤ 63) : Calls Tryd.prog 21 #[.int .i64 n, .int .i64 b] w fun e w' => e = .returned (.bool false) ∧ Below w.heap.size w w' := by
  have h3 : 1 ≤ b := by omega
  have h4 : ¬ b ≤ 6 := by omega
  go_enter Tryd.func21, Tryd.ntmps21
  go_wp2
  go_ret
  exact ⟨rfl, below_alloc (Below.refl _ _) _⟩
set_option maxRecDepth 100000 in
theorem has22_d (n b : Int) (w : World) (h : 6 < b) (h1 : 1 ≤ n) (h2 : n ≤ 63) : Calls Tryd.prog 22 #[.int .i64 n, .int .i64 b] w fun e w' => e = .returned (.bool false) ∧ w = w' := by
  have h3 : 1 ≤ b := by omega
  have h4 : ¬ b ≤ 6 := by omega
  go_enter Tryd.func22, Tryd.ntmps22
  go_wp2
  go_ret
  exact ⟨rfl, rfl⟩
theorem has_any (n b : Int) (w : World) : Calls Tryd.prog 21 #[.int .i64 n, .int .i64 b] w fun e w' => e = .returned (.bool (phas n b)) ∧ Below w.heap.size w w' := by
  by_cases h : pin n b
  · obtain ⟨h1, h2, h3, h4⟩ := h
    have hb : b = 1 ∨ b = 2 ∨ b = 3 ∨ b = 4 ∨ b = 5 ∨ b = 6 := by omega
    rcases hb with rfl | rfl | rfl | rfl | rfl | rfl
    · exact has_1 n w h1 h2
    · exact has_2 n w h1 h2
    · exact has_3 n w h1 h2
    · exact has_4 n w h1 h2
    · exact has_5 n w h1 h2
    · exact has_6 n w h1 h2
  · rw [phas_out h]
    unfold pin at h
    by_cases h1 : n < 1
    · exact has21_a n b w h1
    · by_cases h2 : 63 < n
      · exact has21_b n b w h2
      · by_cases h3 : b < 1
        · exact has21_c n b w h3 (by omega) (by omega)
        · exact has21_d n b w (by omega) (by omega) (by omega)
theorem rhas_any (n b : Int) (w : World) : Calls Tryd.prog 22 #[.int .i64 n, .int .i64 b] w fun e w' => e = .returned (.bool (phas n b)) ∧ w = w' := by
  by_cases h : pin n b
  · obtain ⟨h1, h2, h3, h4⟩ := h
    have hb : b = 1 ∨ b = 2 ∨ b = 3 ∨ b = 4 ∨ b = 5 ∨ b = 6 := by omega
    rcases hb with rfl | rfl | rfl | rfl | rfl | rfl
    · exact rhas_1 n w h1 h2
    · exact rhas_2 n w h1 h2
    · exact rhas_3 n w h1 h2
    · exact rhas_4 n w h1 h2
    · exact rhas_5 n w h1 h2
    · exact rhas_6 n w h1 h2
  · rw [phas_out h]
    unfold pin at h
    by_cases h1 : n < 1
    · exact has22_a n b w h1
    · by_cases h2 : 63 < n
      · exact has22_b n b w h2
      · by_cases h3 : b < 1
        · exact has22_c n b w h3 (by omega) (by omega)
        · exact has22_d n b w (by omega) (by omega) (by omega)
/-- How many of the first k blocks a pattern says. -/
def pcount (n : Int) (k : Nat) : Nat := ((List.range k).filter fun (i : Nat) => phas n ((i : Int) + 1)).length
theorem pcount_succ (n : Int) (k : Nat) : pcount n (k + 1) = pcount n k + if phas n ((k : Int) + 1) then 1 else 0 := by
  unfold pcount
  rw [List.range_succ, List.filter_append, List.length_append]
  by_cases h : phas n ((k : Int) + 1) = true <;> simp [List.filter_cons, h]
theorem pcount_le (n : Int) (k : Nat) : pcount n k ≤ k := by
  unfold pcount
  have := List.length_filter_le (fun i : Nat => phas n ((i : Int) + 1)) (List.range k)
  simpa using this
set_option maxHeartbeats 1000000 in
theorem pcnt_any (n : Int) (w : World) : Calls Tryd.prog 23 #[.int .i64 n] w fun e w' => e = .returned (.int .i64 (pcount n 6 : Nat)) ∧ Below w.heap.size w w' := by
  go_enter Tryd.func23, Tryd.ntmps23
  go_wp2
  go_loopw [2, 4] (fun c i wr => ∃ k : Nat, k ≤ 6 ∧ i = .int .i64 (k : Int) ∧ c = .int .i64 (pcount n k : Nat) ∧ Hid (Below w.heap.size w wr)) (fun _ i _ => (6 - intOf i).toNat)
  case atStart => exact ⟨0, by omega, rfl, rfl, Lib.hid (Below.refl _ _)⟩
  case round =>
    obtain ⟨k, hk, rfl, rfl, hb⟩ := hrel
    obtain ⟨m, hm⟩ : ∃ m, pcount n k = m := ⟨_, rfl⟩
    have hle := pcount_le n k
    have HS := Lib.hid (pcount_succ n k)
    rw [hm] at HS hle ⊢
    have HM := Lib.hid hm
    clear hm
    by_cases hlt : k < 6
    · have hlt2 : (k : Int) < 6 := by omega
      obtain ⟨t, ht⟩ : ∃ t, phas n ((k : Int) + 1) = t := ⟨_, rfl⟩
      have HT := Lib.hid ht
      rw [ht] at HS
      clear ht
      cases t with
      | true =>
        go_wp2_with fail
        refine (has_any n ((k : Int) + 1) wr).mono ?_
        rw [HT.out]
        rintro e w' ⟨rfl, hb2⟩
        have HB2 := Lib.hid (hb.out.trans (hb2.mono hb.out.size))
        clear hb2
        go_wp2
        go_roundw
        case rel => exact ⟨k + 1, by omega, by go_num, by rw [HS.out]; go_num, HB2⟩
        case measure => simp [intOf]; omega
      | false =>
        go_wp2_with fail
        refine (has_any n ((k : Int) + 1) wr).mono ?_
        rw [HT.out]
        rintro e w' ⟨rfl, hb2⟩
        have HB2 := Lib.hid (hb.out.trans (hb2.mono hb.out.size))
        clear hb2
        go_wp2
        go_roundw
        case rel => exact ⟨k + 1, by omega, by go_num, by rw [HS.out]; go_num, HB2⟩
        case measure => simp [intOf]; omega
    · obtain rfl : k = 6 := by omega
      go_wp2
      go_ret
      exact ⟨by rw [HM.out]; rfl, hb.out⟩
set_option maxHeartbeats 1000000 in
theorem rpcnt_any (n : Int) (w : World) : Calls Tryd.prog 24 #[.int .i64 n] w fun e w' => e = .returned (.int .i64 (pcount n 6 : Nat)) ∧ w = w' := by
  go_enter Tryd.func24, Tryd.ntmps24
  go_wp2
  go_loop [3, 4] (fun c i => ∃ k : Nat, k ≤ 6 ∧ i = .int .i64 ((k : Int) + 1) ∧ c = .int .i64 (pcount n k : Nat)) (fun _ i => (7 - intOf i).toNat)
  case atStart => exact ⟨0, by omega, rfl, rfl⟩
  case round =>
    obtain ⟨k, hk, rfl, rfl⟩ := hrel
    obtain ⟨m, hm⟩ : ∃ m, pcount n k = m := ⟨_, rfl⟩
    have hle := pcount_le n k
    have HS := Lib.hid (pcount_succ n k)
    rw [hm] at HS hle ⊢
    have HM := Lib.hid hm
    clear hm
    by_cases hlt : k < 6
    · have hlt2 : (k : Int) + 1 ≤ 6 := by omega
      obtain ⟨t, ht⟩ : ∃ t, phas n ((k : Int) + 1) = t := ⟨_, rfl⟩
      have HT := Lib.hid ht
      rw [ht] at HS
      clear ht
      cases t with
      | true =>
        go_wp2_with fail
        refine (rhas_any n ((k : Int) + 1) w).mono ?_
        rw [HT.out]
        rintro e w' ⟨rfl, rfl⟩
        go_wp2
        go_round
        case rel => exact ⟨k + 1, by omega, by go_num, by rw [HS.out]; go_num⟩
        case measure => simp [intOf]; omega
      | false =>
        go_wp2_with fail
        refine (rhas_any n ((k : Int) + 1) w).mono ?_
        rw [HT.out]
        rintro e w' ⟨rfl, rfl⟩
        go_wp2
        go_round
        case rel => exact ⟨k + 1, by omega, by go_num, by rw [HS.out]; go_num⟩
        case measure => simp [intOf]; omega
    · obtain rfl : k = 6 := by omega
      go_wp2
      go_ret
      exact ⟨by rw [HM.out]; rfl, rfl⟩
end Go.Proofs.YthjfigaalknoiaaDoor
