/- prefix.code tells whether a text is a code; for every text. -/
import Derived.Test.YthjfigaalknoiaaBase
namespace Go.Proofs.Ythjfigaalknoiaa
open Go.RowKit Go.Proofs.YthjfigaalknoiaaW.PrintWords

/-- A text of noughts and ones. -/
def isBits (s : ByteArray) : Bool := s.data.toList.all fun c => c == 48 || c == 49
def isCode (s : ByteArray) : Bool := isBits s && (decide (1 ≤ s.size) && decide (s.size ≤ 24))

theorem isBits_of {s : ByteArray} (h : ∀ j (hj : j < s.size), (s[j].toNat : Int) = 48 ∨ (s[j].toNat : Int) = 49) : isBits s = true := by
  unfold isBits
  rw [List.all_eq_true]
  intro c hc
  obtain ⟨j, hj, rfl⟩ := List.mem_iff_getElem.1 hc
  have h2 := h j (by simpa using hj)
  rw [ByteArray.getElem_eq_getElem_data] at h2
  rcases h2 with h2 | h2
  · have : s.data[j] = 48 := UInt8.toNat_inj.1 (by show s.data[j].toNat = _; exact Int.ofNat.inj h2)
    simp [this]
  · have : s.data[j] = 49 := UInt8.toNat_inj.1 (by show s.data[j].toNat = _; exact Int.ofNat.inj h2)
    simp [this]
theorem isBits_not {s : ByteArray} {j : Nat} (hj : j < s.size) (h1 : ¬ (s[j].toNat : Int) = 48) (h2 : ¬ (s[j].toNat : Int) = 49) : isBits s = false := by
  unfold isBits
  rw [List.all_eq_false]
  refine ⟨s[j], by simp [ByteArray.getElem_eq_getElem_data], ?_⟩
  intro h
  rw [Bool.or_eq_true, beq_iff_eq, beq_iff_eq] at h
  rcases h with h | h
  · exact h1 (by rw [h]; rfl)
  · exact h2 (by rw [h]; rfl)

set_option maxHeartbeats 400000 in
theorem code_any (s : ByteArray) (w : World) (hs : s.size ≤ maxLen) :
    Calls Try.prog 73 #[.string s] w fun e w' => e = .returned (.bool (isCode s)) ∧ w = w' := by
  unfold maxLen at hs
  go_enter Try.func73, Try.ntmps73
  go_wp2
  go_loop [3, 6] (fun _ i => ∃ k : Nat, k ≤ s.size ∧ i = .int .i64 k ∧ Hid (∀ j (hj : j < s.size), j < k → (s[j].toNat : Int) = 48 ∨ (s[j].toNat : Int) = 49)) (fun _ i => s.size - (intOf i).toNat)
  case atStart => exact ⟨0, Nat.zero_le _, rfl, Lib.hid (fun j _ h => absurd h (by omega))⟩
  case round =>
    obtain ⟨k, hk, rfl, hh⟩ := hrel
    by_cases hlt : k < s.size
    · by_cases h48 : (s[k].toNat : Int) = 48
      · have H : Hid (∀ j (hj : j < s.size), j < k + 1 → (s[j].toNat : Int) = 48 ∨ (s[j].toNat : Int) = 49) := Lib.hid (fun j hj hlt' => by
          by_cases e : j = k
          · subst e; exact .inl h48
          · exact hh.out j hj (by omega))
        have b0 : ((s[k].toNat : Int) != 48) = false := by simp [h48]
        clear h48
        go_wp2
        go_round
        case rel => exact ⟨k + 1, by omega, by go_num, H⟩
        case measure => simp [intOf]; omega
      · have b0 : ((s[k].toNat : Int) != 48) = true := by simpa using h48
        by_cases h49 : (s[k].toNat : Int) = 49
        · have H : Hid (∀ j (hj : j < s.size), j < k + 1 → (s[j].toNat : Int) = 48 ∨ (s[j].toNat : Int) = 49) := Lib.hid (fun j hj hlt' => by
            by_cases e : j = k
            · subst e; exact .inr h49
            · exact hh.out j hj (by omega))
          have b1 : ((s[k].toNat : Int) != 49) = false := by simp [h49]
          clear h48 h49
          go_wp2
          go_round
          case rel => exact ⟨k + 1, by omega, by go_num, H⟩
          case measure => simp [intOf]; omega
        · have b1 : ((s[k].toNat : Int) != 49) = true := by simpa using h49
          have hf : isCode s = false := by unfold isCode; rw [isBits_not hlt h48 h49]; rfl
          have H := Lib.hid hf
          clear h48 h49 hf
          go_wp2
          go_ret
          exact ⟨by rw [H.out]; rfl, rfl⟩
    · have hf : isBits s = true := isBits_of (fun j hj => hh.out j hj (by omega))
      have H := Lib.hid hf
      clear hf
      by_cases h1 : 1 ≤ s.size
      · go_wp2
        go_ret
        refine ⟨?_, rfl⟩
        unfold isCode
        rw [H.out]
        simp [h1]
        omega
      · go_wp2
        go_ret
        refine ⟨?_, rfl⟩
        unfold isCode
        rw [H.out]
        simp [h1]
        try omega
end Go.Proofs.Ythjfigaalknoiaa
