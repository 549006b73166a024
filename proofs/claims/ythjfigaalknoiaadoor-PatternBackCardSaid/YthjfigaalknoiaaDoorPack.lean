/- praxinoscopekit.Bits packs numbers' lowest bits into bytes. -/
import Derived.Test.YthjfigaalknoiaaDoorLent
set_option linter.unusedVariables false
set_option linter.unusedSimpArgs false
namespace Go.Proofs.YthjfigaalknoiaaDoor
open Go.RowKit Go.Proofs.YthjfigaalknoiaaDoorW.PrintWords

def orv (b : Int) (r : Nat) : Int := if (b / 2 ^ (7 - r)) % 2 = 0 then b + 2 ^ (7 - r) else b
theorem or_byte : ∀ b : Fin 256, ∀ r : Fin 8, bits .or .u8 ((b.1 : Nat) : Int) (128 / 2 ^ r.1) = orv b.1 r.1 := by decide +kernel
theorem orv_range : ∀ b : Fin 256, ∀ r : Fin 8, 0 ≤ orv b.1 r.1 ∧ orv b.1 r.1 < 256 := by decide +kernel
theorem orv_bit : ∀ b : Fin 256, ∀ r : Fin 8, ∀ q : Fin 8, (orv b.1 r.1 / 2 ^ (7 - q.1)) % 2 = if q.1 = r.1 then 1 else ((b.1 : Nat) : Int) / 2 ^ (7 - q.1) % 2 := by decide +kernel

/-- The bytes so far: just the odd ones of the first k numbers. -/
structure Pk (w : World) (g m : Nat) (ls : List Int) (bs : List Int) (k : Nat) (W : World) : Prop where
  own : W.ownsRow w.heap.size 5 1 (.slice (some ⟨g, 0, none⟩) m m) m (bs.map (Value.int .u8))
  bl : Below w.heap.size w W
  rng : ∀ b ∈ bs, 0 ≤ b ∧ b < 256
  len : bs.length = m
  far : w.heap.size ≤ g
  bit : ∀ j, bitInt bs j = if j < k ∧ (ls.getD j 0) % 2 ≠ 0 then 1 else 0

theorem Pk.even {w W : World} {g m k : Nat} {ls bs : List Int} (h : Pk w g m ls bs k W) (he : (ls.getD k 0) % 2 = 0) : Pk w g m ls bs (k + 1) W :=
  ⟨h.own, h.bl, h.rng, h.len, h.far, fun j => by
    rw [h.bit j]
    by_cases e : j = k
    · subst e; rw [if_neg (by omega), if_neg (by omega)]
    · by_cases hj : j < k ∧ (ls.getD j 0) % 2 ≠ 0
      · rw [if_pos hj, if_pos ⟨by omega, hj.2⟩]
      · rw [if_neg hj, if_neg (fun hh => hj ⟨by omega, hh.2⟩)]⟩
theorem fin_of {b : Int} (h0 : 0 ≤ b) (h1 : b < 256) : ∃ f : Fin 256, ((f.1 : Nat) : Int) = b := ⟨⟨b.toNat, by omega⟩, by simp; omega⟩
theorem Pk.odd {w W : World} {g m k : Nat} {ls bs : List Int} (h : Pk w g m ls bs k W) (he : (ls.getD k 0) % 2 ≠ 0) (hk : k / 8 < m) :
    Pk w g m ls (bs.set (k / 8) (orv (bs.getD (k / 8) 0) (k % 8))) (k + 1) (W.setCell ⟨g, k / 8, none⟩ (.int .u8 (orv (bs.getD (k / 8) 0) (k % 8)))) := by
  have hl : k / 8 < bs.length := by rw [h.len]; exact hk
  have hb := h.rng bs[k / 8] (List.getElem_mem hl)
  obtain ⟨f, hf⟩ := fin_of hb.1 hb.2
  have hg : bs.getD (k / 8) 0 = (f.1 : Int) := by rw [List.getD_eq_getElem?_getD, List.getElem?_eq_getElem hl, hf]; rfl
  have hr := orv_range f ⟨k % 8, by omega⟩
  refine ⟨?_, h.bl.setCell (by exact h.far) _, ?_, by rw [List.length_set]; exact h.len, h.far, fun j => ?_⟩
  · have := (h.own.stored (k / 8) (.int .u8 (orv (bs.getD (k / 8) 0) (k % 8)))).1
    rwa [← List.map_set] at this
  · intro b hb'
    rcases List.mem_or_eq_of_mem_set hb' with h1 | rfl
    · exact h.rng b h1
    · rw [hg]; exact hr
  · have hold := h.bit j
    by_cases e8 : j / 8 = k / 8
    · have hnew : bitInt (bs.set (k / 8) (orv (bs.getD (k / 8) 0) (k % 8))) j = (orv (f.1 : Int) (k % 8) / 2 ^ (7 - j % 8)) % 2 := by
        unfold bitInt
        rw [e8, List.getD_eq_getElem?_getD, List.getElem?_set_self hl, hg]
        rfl
      rw [hnew, orv_bit f ⟨k % 8, by omega⟩ ⟨j % 8, by omega⟩]
      by_cases e : j = k
      · subst e; rw [if_pos rfl, if_pos ⟨by omega, he⟩]
      · have hne : ¬ j % 8 = k % 8 := by omega
        rw [if_neg hne]
        have : (f.1 : Int) / 2 ^ (7 - j % 8) % 2 = bitInt bs j := by unfold bitInt; rw [e8, hg]
        rw [this, hold]
        by_cases hj : j < k ∧ (ls.getD j 0) % 2 ≠ 0
        · rw [if_pos hj, if_pos ⟨by omega, hj.2⟩]
        · rw [if_neg hj, if_neg (fun hh => hj ⟨by omega, hh.2⟩)]
    · have hnew : bitInt (bs.set (k / 8) (orv (bs.getD (k / 8) 0) (k % 8))) j = bitInt bs j := by
        unfold bitInt
        rw [List.getD_eq_getElem?_getD, List.getElem?_set_ne (fun hh => e8 hh.symm), ← List.getD_eq_getElem?_getD]
      rw [hnew, hold]
      have e : j ≠ k := fun hh => e8 (by rw [hh])
      by_cases hj : j < k ∧ (ls.getD j 0) % 2 ≠ 0
      · rw [if_pos hj, if_pos ⟨by omega, hj.2⟩]
      · rw [if_neg hj, if_neg (fun hh => hj ⟨by omega, hh.2⟩)]
theorem zero_bits (m j : Nat) : bitInt (List.replicate m 0) j = 0 := by
  unfold bitInt
  have : (List.replicate m (0 : Int)).getD (j / 8) 0 = 0 := by
    rw [List.getD_eq_getElem?_getD, List.getElem?_replicate]
    split <;> rfl
  rw [this]
  simp
theorem made_bytes (m : Nat) : (madeCells (Value.int .u8 0).cells (m * 1)).toList = (List.replicate m (0 : Int)).map (Value.int .u8) := by
  unfold madeCells
  rw [Nat.mul_one]
  apply List.ext_getElem
  · simp
  · intro i h1 h2
    simp [Value.cells, Nat.mod_one]

end Go.Proofs.YthjfigaalknoiaaDoor
