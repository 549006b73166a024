/- One bit of bytes: bits.bit, bits.Read of one bit, and the reference's. -/
import Derived.Test.YthjfigaalknoiaaBase
set_option linter.unusedVariables false
set_option linter.unusedSimpArgs false
namespace Go.Proofs.Ythjfigaalknoiaa
open Go.RowKit Go.Proofs.YthjfigaalknoiaaW.PrintWords

def bitInt (bs : List Int) (i : Nat) : Int := (bs.getD (i / 8) 0 / 2 ^ (7 - i % 8)) % 2
def bitAt (bs : List Int) (i : Nat) : Bool := decide (bitInt bs i = 1)
theorem bitInt_01 (bs : List Int) (i : Nat) : bitInt bs i = 0 ∨ bitInt bs i = 1 := by unfold bitInt; omega
theorem bitInt_eq (bs : List Int) (i : Nat) : bitInt bs i = if bitAt bs i then 1 else 0 := by
  unfold bitAt
  rcases bitInt_01 bs i with h | h <;> simp [h]

theorem i64_wraps (n : Int) (h0 : 0 ≤ n) (h1 : n < 2 ^ 63) : IntKind.i64.wrap n = n := by
  rw [IntKind.wrap_i64]; omega
theorem i64_and7 (i : Nat) (h : i < 9223372036854775808) : bits .and .i64 (i : Int) 7 = ((i % 8 : Nat) : Int) := by
  have := bits_mask .i64 63 (by decide) i64_wraps 3 (by decide) (i : Int) (by omega) (by omega)
  rw [show (2 : Int) ^ 3 - 1 = 7 by decide] at this
  rw [this]; omega
theorem i64_and1 (x : Int) (h0 : 0 ≤ x) (h : x < 256) : bits .and .i64 x 1 = x % 2 := by
  have := bits_mask .i64 63 (by decide) i64_wraps 1 (by decide) x h0 (by omega)
  rw [show (2 : Int) ^ 1 - 1 = 1 by decide] at this
  rw [this]; omega

/-- Bytes that are read. -/
def Bytes (w : World) (A : Option Addr) (n : Nat) (bs : List Int) : Prop := (Kd.int .u8).C w A n bs ∧ n ≤ 140737488351232 ∧ ∀ b ∈ bs, 0 ≤ b ∧ b < 256
theorem Bytes.below {w w' : World} {A : Option Addr} {n : Nat} {bs : List Int} (h : Bytes w A n bs) (hb : Below w.heap.size w w') : Bytes w' A n bs := ⟨Kd.C_below h.1 hb, h.2⟩
theorem Bytes.at_ {w : World} {A : Option Addr} {n : Nat} {bs : List Int} (h : Bytes w A n bs) {k : Nat} (hk : k < n) : ∃ ad, A = some ad ∧ w.cell? (ad.add k) = some (.int .u8 (bs.getD k 0)) := by
  obtain ⟨ad, e, hc⟩ := h.1.2.2 (by omega)
  have hk' : k < bs.length := by rw [h.1.1]; exact hk
  obtain ⟨c, h1, h2, h3⟩ := hc k bs[k] (List.getElem?_eq_getElem hk')
  have h2' : c = [.int .u8 bs[k]] := h2
  have := h3 0 (.int .u8 bs[k]) (by rw [h2']; rfl)
  refine ⟨ad, e, ?_⟩
  rw [List.getD_eq_getElem?_getD, List.getElem?_eq_getElem hk']
  simpa [Kd.int, Kd.scalar] using this
theorem Bytes.range {w : World} {A : Option Addr} {n : Nat} {bs : List Int} (h : Bytes w A n bs) (k : Nat) : 0 ≤ bs.getD k 0 ∧ bs.getD k 0 < 256 := by
  rw [List.getD_eq_getElem?_getD]
  cases e : bs[k]? with
  | none => exact ⟨by decide, by decide⟩
  | some b => exact h.2.2 b (List.mem_of_getElem? e)

theorem byte_shift {b : Int} (h0 : 0 ≤ b) (h1 : b < 256) (k : Nat) : 0 ≤ b / 2 ^ k ∧ b / 2 ^ k < 256 := by
  have hp : (0 : Int) < 2 ^ k := Int.pow_pos (by decide)
  refine ⟨Int.ediv_nonneg h0 (Int.le_of_lt hp), ?_⟩
  exact Int.lt_of_le_of_lt (Int.ediv_le_self _ h0) h1
theorem bit_value {b : Int} (h0 : 0 ≤ b) (h1 : b < 256) (k : Nat) : bits .and .i64 (wrap64 (b / 2 ^ k)) 1 = (b / 2 ^ k) % 2 := by
  obtain ⟨a, c⟩ := byte_shift h0 h1 k
  have : wrap64 (b / 2 ^ k) = b / 2 ^ k := by unfold wrap64; omega
  rw [this, i64_and1 _ a c]

theorem bit_any (A : Option Addr) (n c : Nat) (bs : List Int) (i : Nat) (w : World) (hB : Bytes w A n bs) (hi : i < 8 * n) :
    Calls Try.prog 82 #[.slice A n c, .int .i64 (i : Int)] w fun e w' => e = .returned (.int .i64 (bitInt bs i)) ∧ w = w' := by
  have hn := hB.2.1
  obtain ⟨ad, rfl, hcell⟩ := hB.at_ (k := i / 8) (by omega)
  obtain ⟨r0, r1⟩ := hB.range (i / 8)
  have HV := Lib.hid (bit_value r0 r1 (7 - i % 8))
  have HB := Lib.hid hB
  have ha := i64_and7 i (by omega)
  clear hB
  go_enter Try.func82, Try.ntmps82
  go_wp2
  go_ret
  refine ⟨?_, rfl⟩
  have := HV.out
  rw [List.getD_eq_getElem?_getD] at this
  show Ending.returned (.int .i64 (bits .and .i64 (wrap64 (bs[i / 8]?.getD 0 / 2 ^ (7 - i % 8))) 1)) = _
  rw [this]
  unfold bitInt
  rw [List.getD_eq_getElem?_getD]

theorem count_any (A : Option Addr) (n c : Nat) (w : World) (hn : n ≤ 140737488351232) :
    Calls Try.prog 81 #[.slice A n c] w fun e w' => e = .returned (.int .i64 (8 * (n : Int))) ∧ w = w' := by
  go_enter Try.func81, Try.ntmps81
  go_wp2
  go_ret
  exact ⟨rfl, rfl⟩

/-- What the reading of one bit answers. -/
def readVal (bs : List Int) (n : Nat) (i : Int) : Int := if 0 ≤ i ∧ i < 8 * (n : Int) then bitInt bs i.toNat else 0
def readErr (n : Nat) (i : Int) : Int := if i < 0 then 3 else if i < 8 * (n : Int) then 0 else 5

theorem read_neg (A : Option Addr) (n c : Nat) (i : Int) (w : World) (hi : i < 0) :
    Calls Try.prog 36 #[.slice A n c, .int .i64 i, .int .i64 1] w fun e w' => e = .returned (.tuple #[.int .i64 0, .int .i64 3]) ∧ w = w' := by
  go_enter Try.func36, Try.ntmps36
  go_wp2
  go_ret2
  exact ⟨rfl, rfl⟩
theorem read_out (A : Option Addr) (n c : Nat) (i : Int) (w : World) (hn : n ≤ 140737488351232) (h0 : 0 ≤ i) (hi : 8 * (n : Int) ≤ i) (h63 : i < 9223372036854775808) :
    Calls Try.prog 36 #[.slice A n c, .int .i64 i, .int .i64 1] w fun e w' => e = .returned (.tuple #[.int .i64 0, .int .i64 5]) ∧ w = w' := by
  by_cases e : i = 8 * (n : Int)
  · have h1 : ¬ i < 0 := by omega
    have h2 : ¬ 8 * (n : Int) < i := by omega
    have h3 : 8 * (n : Int) - i < 1 := by omega
    clear e hi h0
    go_enter Try.func36, Try.ntmps36
    go_wp2_with (go_at_call 81; refine (count_any _ _ _ _ hn).mono ?_; rintro e w' ⟨rfl, rfl⟩)
    go_ret2
    exact ⟨rfl, rfl⟩
  · have h2 : 8 * (n : Int) < i := by omega
    go_enter Try.func36, Try.ntmps36
    go_wp2_with (go_at_call 81; refine (count_any _ _ _ _ hn).mono ?_; rintro e w' ⟨rfl, rfl⟩)
    go_ret2
    exact ⟨rfl, rfl⟩
theorem read_in (A : Option Addr) (n c : Nat) (bs : List Int) (i : Nat) (w : World) (hB : Bytes w A n bs) (hi : i < 8 * n) :
    Calls Try.prog 36 #[.slice A n c, .int .i64 (i : Int), .int .i64 1] w fun e w' => e = .returned (.tuple #[.int .i64 (bitInt bs i), .int .i64 0]) ∧ w = w' := by
  have hn := hB.2.1
  have HB := Lib.hid hB
  have h1 : ¬ (i : Int) < 0 := by omega
  have h2 : ¬ 8 * (n : Int) < (i : Int) := by omega
  have h3 : ¬ 8 * (n : Int) - (i : Int) < 1 := by omega
  have HO : Hid (bits .or .i64 0 (bitInt bs i) = bitInt bs i) := Lib.hid (by rcases bitInt_01 bs i with h | h <;> rw [h] <;> decide)
  clear hB
  go_enter Try.func36, Try.ntmps36
  go_wp2_with (go_at_call 81; refine (count_any _ _ _ _ hn).mono ?_; rintro e w' ⟨rfl, rfl⟩)
  go_loop [1, 2, 8] (fun x1 x2 x8 => (x1 = .int .i64 (i : Int) ∧ x2 = .int .i64 1 ∧ x8 = .int .i64 0) ∨ (x2 = .int .i64 0 ∧ x8 = .int .i64 (bitInt bs i))) (fun _ x2 _ => (intOf x2).toNat)
  case atStart => exact .inl ⟨rfl, rfl, rfl⟩
  case round =>
    rcases hrel with ⟨rfl, rfl, rfl⟩ | ⟨rfl, rfl⟩
    · go_wp2_with (go_at_call 82; refine (bit_any _ _ _ _ _ _ HB.out hi).mono ?_; rintro e w' ⟨rfl, rfl⟩)
      go_round
      case rel => exact .inr ⟨rfl, by rw [HO.out]⟩
      case measure => simp [intOf]
    · go_wp2
      go_ret2
      exact ⟨rfl, rfl⟩

theorem read_any (A : Option Addr) (n c : Nat) (bs : List Int) (i : Int) (w : World) (hB : Bytes w A n bs) (h63 : i < 9223372036854775808) :
    Calls Try.prog 36 #[.slice A n c, .int .i64 i, .int .i64 1] w fun e w' => e = .returned (.tuple #[.int .i64 (readVal bs n i), .int .i64 (readErr n i)]) ∧ w = w' := by
  by_cases h0 : i < 0
  · have e1 : readVal bs n i = 0 := by unfold readVal; rw [if_neg (by omega)]
    have e2 : readErr n i = 3 := by unfold readErr; rw [if_pos h0]
    rw [e1, e2]; exact read_neg A n c i w h0
  · by_cases h1 : i < 8 * (n : Int)
    · have e1 : readVal bs n i = bitInt bs i.toNat := by unfold readVal; rw [if_pos (by omega)]
      have e2 : readErr n i = 0 := by unfold readErr; rw [if_neg h0, if_pos h1]
      rw [e1, e2]
      obtain ⟨k, rfl⟩ := Int.eq_ofNat_of_zero_le (show 0 ≤ i by omega)
      rw [Int.toNat_natCast]
      exact read_in A n c bs k w hB (by omega)
    · have e1 : readVal bs n i = 0 := by unfold readVal; rw [if_neg (by omega)]
      have e2 : readErr n i = 5 := by unfold readErr; rw [if_neg h0, if_neg h1]
      rw [e1, e2]; exact read_out A n c i w hB.2.1 (by omega) (by omega) h63
end Go.Proofs.Ythjfigaalknoiaa
