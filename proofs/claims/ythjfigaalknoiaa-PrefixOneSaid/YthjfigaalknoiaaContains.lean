/- slices.ContainsFunc over prefix.code: is a text none? For every row of texts. -/
import Derived.Test.YthjfigaalknoiaaCode
namespace Go.Proofs.Ythjfigaalknoiaa
open Go.RowKit Go.Proofs.YthjfigaalknoiaaW.PrintWords

theorem make1_any (s : ByteArray) (w : World) (hs : s.size ≤ maxLen) :
    Calls Try.prog 72 #[.string s] w fun e w' => e = .returned (.bool (!isCode s)) ∧ w = w' := by
  go_enter Try.func72, Try.ntmps72
  go_wp2_with (go_at_call 73; refine (code_any _ _ hs).mono ?_; rintro e w' ⟨rfl, rfl⟩)
  go_ret
  exact ⟨rfl, rfl⟩

def firstBad (xs : List ByteArray) : Option Nat := xs.findIdx? (fun s => !isCode s)
def badIdx (xs : List ByteArray) : Int := match firstBad xs with | some i => i | none => -1

theorem badIdx_at {xs : List ByteArray} {k : Nat} (hk : k < xs.length) (hpre : ∀ j (hj : j < xs.length), j < k → isCode xs[j] = true) (h : isCode xs[k] = false) : badIdx xs = k := by
  unfold badIdx firstBad
  have : xs.findIdx? (fun s => !isCode s) = some k := by
    rw [List.findIdx?_eq_some_iff_getElem]
    refine ⟨hk, by simp [h], fun j hj => by simp [hpre j (by omega) hj]⟩
  rw [this]
theorem badIdx_none {xs : List ByteArray} (hpre : ∀ j (hj : j < xs.length), isCode xs[j] = true) : badIdx xs = -1 := by
  unfold badIdx firstBad
  have : xs.findIdx? (fun s => !isCode s) = none := by
    rw [List.findIdx?_eq_none_iff]
    intro x hx
    obtain ⟨j, hj, rfl⟩ := List.mem_iff_getElem.1 hx
    simp [hpre j hj]
  rw [this]

set_option maxHeartbeats 400000 in
theorem index_any (A : Option Addr) (n c : Nat) (xs : List ByteArray) (w : World) (hC : Kd.string.C w A n xs) (hs : ∀ s ∈ xs, s.size ≤ maxLen) :
    Calls Try.prog 97 #[.slice A n c, .func (.func 72) #[] #[]] w fun e w' => e = .returned (.int .i64 (badIdx xs)) ∧ w = w' := by
  obtain ⟨hn, hm, hcells⟩ := hC
  have HC := Lib.hid hcells
  have HS := Lib.hid hs
  subst hn
  clear hcells hs
  go_enter Try.func97, Try.ntmps97
  go_wp2
  go_loop [5, 8] (fun _ i => ∃ k : Nat, k ≤ xs.length ∧ i = .int .i64 k ∧ Hid (∀ j (hj : j < xs.length), j < k → isCode xs[j] = true)) (fun _ i => xs.length - (intOf i).toNat)
  case atStart => exact ⟨0, Nat.zero_le _, rfl, Lib.hid (fun j _ h => absurd h (by omega))⟩
  case round =>
    obtain ⟨k, hk, rfl, hh⟩ := hrel
    by_cases hlt : k < xs.length
    · obtain ⟨ad, rfl, hcell⟩ : ∃ ad, A = some ad ∧ w.cell? (ad.add k) = some (.string xs[k]) := by
        obtain ⟨ad, e, hc⟩ := HC.out (by omega)
        obtain ⟨c, h1, h2, h3⟩ := hc k xs[k] (List.getElem?_eq_getElem hlt)
        refine ⟨ad, e, ?_⟩
        have h2' : c = [.string xs[k]] := h2
        have := h3 0 (.string xs[k]) (by rw [h2']; rfl)
        simpa [Kd.string, Kd.scalar] using this
      have hsz : xs[k].size ≤ maxLen := HS.out _ (List.getElem_mem hlt)
      cases hb : isCode xs[k] with
      | true =>
        have H : Hid (∀ j (hj : j < xs.length), j < k + 1 → isCode xs[j] = true) := Lib.hid (fun j hj hlt' => by
          by_cases e : j = k
          · subst e; exact hb
          · exact hh.out j hj (by omega))
        go_wp2_with (go_at_call 72; refine (make1_any _ _ hsz).mono ?_; rintro e w' ⟨rfl, rfl⟩; rw [hb])
        go_round
        case rel => exact ⟨k + 1, by omega, by go_num, H⟩
        case measure => simp [intOf]; omega
      | false =>
        have H := Lib.hid (badIdx_at hlt (fun j hj hlt' => hh.out j hj hlt') hb)
        go_wp2_with (go_at_call 72; refine (make1_any _ _ hsz).mono ?_; rintro e w' ⟨rfl, rfl⟩; rw [hb])
        go_ret
        exact ⟨by rw [H.out]; rfl, rfl⟩
    · have H := Lib.hid (badIdx_none (xs := xs) (fun j hj => hh.out j hj (by omega)))
      go_wp2
      go_ret
      exact ⟨by rw [H.out]; rfl, rfl⟩

theorem badIdx_ge (xs : List ByteArray) : (decide (0 ≤ badIdx xs)) = !(xs.all isCode) := by
  unfold badIdx firstBad
  cases h : xs.findIdx? (fun s => !isCode s) with
  | none =>
    rw [List.findIdx?_eq_none_iff] at h
    have : xs.all isCode = true := by rw [List.all_eq_true]; intro x hx; simpa using h x hx
    rw [this]; decide
  | some i =>
    rw [List.findIdx?_eq_some_iff_getElem] at h
    obtain ⟨hi, h1, _⟩ := h
    have : xs.all isCode = false := by rw [List.all_eq_false]; exact ⟨xs[i], List.getElem_mem hi, by simpa using h1⟩
    rw [this]; simp

theorem contains_any (A : Option Addr) (n c : Nat) (xs : List ByteArray) (w : World) (hC : Kd.string.C w A n xs) (hs : ∀ s ∈ xs, s.size ≤ maxLen) :
    Calls Try.prog 71 #[.slice A n c, .func (.func 72) #[] #[]] w fun e w' => e = .returned (.bool (!(xs.all isCode))) ∧ w = w' := by
  have HC := Lib.hid hC
  have HS := Lib.hid hs
  have HG := Lib.hid (badIdx_ge xs)
  clear hC hs
  go_enter Try.func71, Try.ntmps71
  go_wp2_with (go_at_call 97; refine (index_any _ _ _ _ _ HC.out HS.out).mono ?_; rintro e w' ⟨rfl, rfl⟩)
  go_ret
  exact ⟨by rw [← HG.out]; rfl, rfl⟩
end Go.Proofs.Ythjfigaalknoiaa
