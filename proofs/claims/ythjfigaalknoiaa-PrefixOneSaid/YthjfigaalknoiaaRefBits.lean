/- The reference's reading of one bit, its texts of bits, and what begins what. -/
import Derived.Test.YthjfigaalknoiaaBits
import Derived.Test.YthjfigaalknoiaaCode
import Derived.Lib.Strings
set_option linter.unusedVariables false
set_option linter.unusedSimpArgs false
namespace Go.Proofs.Ythjfigaalknoiaa
open Go.RowKit Go.Proofs.YthjfigaalknoiaaW.PrintWords

theorem rcount_any (A : Option Addr) (n c : Nat) (w : World) (hn : n ≤ 140737488351232) :
    Calls Try.prog 79 #[.slice A n c] w fun e w' => e = .returned (.int .i64 (8 * (n : Int))) ∧ w = w' := by
  go_enter Try.func79, Try.ntmps79
  go_wp2
  go_ret
  exact ⟨rfl, rfl⟩

theorem rbit_value {b : Int} (h0 : 0 ≤ b) (h1 : b < 256) (k : Nat) : (wrap64 (b / 2 ^ k)).tmod 2 = (b / 2 ^ k) % 2 := by
  obtain ⟨a, c⟩ := byte_shift h0 h1 k
  have : wrap64 (b / 2 ^ k) = b / 2 ^ k := by unfold wrap64; omega
  rw [this, Int.tmod_eq_emod_of_nonneg a]

theorem rbit_any (A : Option Addr) (n c : Nat) (bs : List Int) (i : Nat) (w : World) (hB : Bytes w A n bs) (hi : i < 8 * n) :
    Calls Try.prog 99 #[.slice A n c, .int .i64 (i : Int)] w fun e w' => e = .returned (.int .i64 (bitInt bs i)) ∧ w = w' := by
  have hn := hB.2.1
  obtain ⟨ad, rfl, hcell⟩ := hB.at_ (k := i / 8) (by omega)
  obtain ⟨r0, r1⟩ := hB.range (i / 8)
  have HV := Lib.hid (rbit_value r0 r1 (7 - i % 8))
  have HB := Lib.hid hB
  clear hB
  go_enter Try.func99, Try.ntmps99
  go_wp2
  go_ret
  refine ⟨?_, rfl⟩
  have := HV.out
  rw [List.getD_eq_getElem?_getD] at this
  show Ending.returned (.int .i64 ((wrap64 (bs[i / 8]?.getD 0 / 2 ^ (7 - i % 8))).tmod 2)) = _
  rw [this]
  unfold bitInt
  rw [List.getD_eq_getElem?_getD]

/-- The reference reads one bit; asked within the bytes alone. -/
theorem rread_in (A : Option Addr) (n c : Nat) (bs : List Int) (i : Nat) (w : World) (hB : Bytes w A n bs) (hi : i < 8 * n) :
    Calls Try.prog 80 #[.slice A n c, .int .i64 (i : Int), .int .i64 1] w fun e w' => e = .returned (.tuple #[.int .i64 (bitInt bs i), .int .i64 0]) ∧ w = w' := by
  have hn := hB.2.1
  have HB := Lib.hid hB
  have h1 : ¬ (i : Int) < 0 := by omega
  have h2 : ¬ 8 * (n : Int) < (i : Int) := by omega
  have h3 : ¬ 8 * (n : Int) - (i : Int) < 1 := by omega
  have hb := bitInt_01 bs i
  have hb0 : 0 ≤ bitInt bs i := by omega
  have hb1 : bitInt bs i ≤ 1 := by omega
  clear hB hb
  go_enter Try.func80, Try.ntmps80
  go_wp2_with (go_at_call 79; refine (rcount_any _ _ _ _ hn).mono ?_; rintro e w' ⟨rfl, rfl⟩)
  go_loop [8, 9] (fun x8 x9 => (x8 = .int .i64 0 ∧ x9 = .int .i64 0) ∨ (x8 = .int .i64 (bitInt bs i) ∧ x9 = .int .i64 1)) (fun _ x9 => (1 - intOf x9).toNat)
  case atStart => exact .inl ⟨rfl, rfl⟩
  case round =>
    rcases hrel with ⟨rfl, rfl⟩ | ⟨rfl, rfl⟩
    · go_wp2_with (go_at_call 99; refine (rbit_any _ _ _ _ _ _ HB.out hi).mono ?_; rintro e w' ⟨rfl, rfl⟩)
      go_round
      case rel => exact .inr ⟨by first | rfl | simp, rfl⟩
      case measure => simp [intOf]
    · go_wp2
      go_ret2
      exact ⟨rfl, rfl⟩

set_option maxHeartbeats 400000 in
theorem rcode_any (s : ByteArray) (w : World) (hs : s.size ≤ maxLen) :
    Calls Try.prog 75 #[.string s] w fun e w' => e = .returned (.bool (isCode s)) ∧ w = w' := by
  unfold maxLen at hs
  go_enter Try.func75, Try.ntmps75
  go_wp2
  go_loop [3] (fun i => ∃ k : Nat, k ≤ s.size ∧ i = .int .i64 k ∧ Hid (∀ j (hj : j < s.size), j < k → (s[j].toNat : Int) = 48 ∨ (s[j].toNat : Int) = 49)) (fun i => s.size - (intOf i).toNat)
  case atStart => exact ⟨0, Nat.zero_le _, rfl, Lib.hid (fun j _ h => absurd h (by omega))⟩
  case round =>
    obtain ⟨k, hk, rfl, hh⟩ := hrel
    by_cases hlt : k < s.size
    · by_cases h48 : (s[k].toNat : Int) = 48
      · have H : Hid (∀ j (hj : j < s.size), j < k + 1 → (s[j].toNat : Int) = 48 ∨ (s[j].toNat : Int) = 49) := Lib.hid (fun j hj hlt' => by
          by_cases e : j = k
          · subst e; exact .inl h48
          · exact hh.out j hj (by omega))
        have b0 : ((s[k].toNat : Int) != 48) = false := by simp [h48]
        clear h48
        go_wp2
        go_round
        case rel => exact ⟨k + 1, by omega, by go_num, H⟩
        case measure => simp [intOf]; omega
      · have b0 : ((s[k].toNat : Int) != 48) = true := by simpa using h48
        by_cases h49 : (s[k].toNat : Int) = 49
        · have H : Hid (∀ j (hj : j < s.size), j < k + 1 → (s[j].toNat : Int) = 48 ∨ (s[j].toNat : Int) = 49) := Lib.hid (fun j hj hlt' => by
            by_cases e : j = k
            · subst e; exact .inr h49
            · exact hh.out j hj (by omega))
          have b1 : ((s[k].toNat : Int) != 49) = false := by simp [h49]
          clear h48 h49
          go_wp2
          go_round
          case rel => exact ⟨k + 1, by omega, by go_num, H⟩
          case measure => simp [intOf]; omega
        · have b1 : ((s[k].toNat : Int) != 49) = true := by simpa using h49
          have hf : isCode s = false := by unfold isCode; rw [isBits_not hlt h48 h49]; rfl
          have H := Lib.hid hf
          clear h48 h49 hf
          go_wp2
          go_ret
          exact ⟨by rw [H.out]; rfl, rfl⟩
    · have hf : isBits s = true := isBits_of (fun j hj => hh.out j hj (by omega))
      have H := Lib.hid hf
      clear hf
      by_cases h1 : 1 ≤ s.size
      · go_wp2
        go_ret
        refine ⟨?_, rfl⟩
        unfold isCode
        rw [H.out]
        simp [h1]
        omega
      · go_wp2
        go_ret
        refine ⟨?_, rfl⟩
        unfold isCode
        rw [H.out]
        simp [h1]
        try omega

/-- Does a text begin with another one? -/
def beg (s t : ByteArray) : Bool := t.data.toList.isPrefixOf s.data.toList
theorem beg_eq (s t : ByteArray) : ((s.extract 0 t.size).toList == t.toList) = beg s t := by
  rw [Lib.extract_toList, ByteArray.toList_eq]
  unfold beg
  rw [Bool.eq_iff_iff, beq_iff_eq, List.isPrefixOf_iff_prefix, List.prefix_iff_eq_take, List.drop_zero, Nat.sub_zero]
  have : t.data.toList.length = t.size := by simp
  rw [this]
  exact ⟨fun h => h.symm, fun h => h.symm⟩
theorem beg_long {s t : ByteArray} (h : ¬ t.size ≤ s.size) : beg s t = false := by
  unfold beg
  cases e : t.data.toList.isPrefixOf s.data.toList with
  | false => rfl
  | true =>
    have := (List.isPrefixOf_iff_prefix.1 e).length_le
    simp at this
    exact absurd this h
theorem begins_any (s t : ByteArray) (w : World) (hs : s.size ≤ maxLen) (ht : t.size ≤ maxLen) :
    Calls Try.prog 76 #[.string s, .string t] w fun e w' => e = .returned (.bool (beg s t)) ∧ w = w' := by
  unfold maxLen at hs ht
  by_cases h : t.size ≤ s.size
  · have H := Lib.hid (beg_eq s t)
    go_enter Try.func76, Try.ntmps76
    go_wp2
    go_ret
    refine ⟨?_, rfl⟩
    rw [← H.out]; rfl
  · have H := Lib.hid (beg_long h)
    go_enter Try.func76, Try.ntmps76
    go_wp2
    go_ret
    refine ⟨?_, rfl⟩
    rw [H.out]; rfl
end Go.Proofs.Ythjfigaalknoiaa
