/- praxinoscopekit.Bits packs numbers' lowest bits into bytes. -/
import Derived.Test.YthjfigaalknoiaaLent
set_option linter.unusedVariables false
set_option linter.unusedSimpArgs false
namespace Go.Proofs.Ythjfigaalknoiaa
open Go.RowKit Go.Proofs.YthjfigaalknoiaaW.PrintWords

def orv (b : Int) (r : Nat) : Int := if (b / 2 ^ (7 - r)) % 2 = 0 then b + 2 ^ (7 - r) else b
theorem or_byte : ∀ b : Fin 256, ∀ r : Fin 8, bits .or .u8 ((b.1 : Nat) : Int) (128 / 2 ^ r.1) = orv b.1 r.1 := by decide +kernel
theorem orv_range : ∀ b : Fin 256, ∀ r : Fin 8, 0 ≤ orv b.1 r.1 ∧ orv b.1 r.1 < 256 := by decide +kernel
theorem orv_bit : ∀ b : Fin 256, ∀ r : Fin 8, ∀ q : Fin 8, (orv b.1 r.1 / 2 ^ (7 - q.1)) % 2 = if q.1 = r.1 then 1 else ((b.1 : Nat) : Int) / 2 ^ (7 - q.1) % 2 := by decide +kernel

/-- The bytes so far: just the odd ones of the first k numbers. -/
structure Pk (w : World) (g m : Nat) (ls : List Int) (bs : List Int) (k : Nat) (W : World) : Prop where
  own : W.ownsRow w.heap.size 5 1 (.slice (some ⟨g, 0, none⟩) m m) m (bs.map (Value.int .u8))
  bl : Below w.heap.size w W
  rng : ∀ b ∈ bs, 0 ≤ b ∧ b < 256
  len : bs.length = m
  far : w.heap.size ≤ g
  bit : ∀ j, bitInt bs j = if j < k ∧ (ls.getD j 0) % 2 ≠ 0 then 1 else 0

theorem Pk.even {w W : World} {g m k : Nat} {ls bs : List Int} (h : Pk w g m ls bs k W) (he : (ls.getD k 0) % 2 = 0) : Pk w g m ls bs (k + 1) W :=
  ⟨h.own, h.bl, h.rng, h.len, h.far, fun j => by
    rw [h.bit j]
    by_cases e : j = k
    · subst e; rw [if_neg (by omega), if_neg (by omega)]
    · by_cases hj : j < k ∧ (ls.getD j 0) % 2 ≠ 0
      · rw [if_pos hj, if_pos ⟨by omega, hj.2⟩]
      · rw [if_neg hj, if_neg (fun hh => hj ⟨by omega, hh.2⟩)]⟩
theorem fin_of {b : Int} (h0 : 0 ≤ b) (h1 : b < 256) : ∃ f : Fin 256, ((f.1 : Nat) : Int) = b := ⟨⟨b.toNat, by omega⟩, by simp; omega⟩
theorem Pk.odd {w W : World} {g m k : Nat} {ls bs : List Int} (h : Pk w g m ls bs k W) (he : (ls.getD k 0) % 2 ≠ 0) (hk : k / 8 < m) :
    Pk w g m ls (bs.set (k / 8) (orv (bs.getD (k / 8) 0) (k % 8))) (k + 1) (W.setCell ⟨g, k / 8, none⟩ (.int .u8 (orv (bs.getD (k / 8) 0) (k % 8)))) := by
  have hl : k / 8 < bs.length := by rw [h.len]; exact hk
  have hb := h.rng bs[k / 8] (List.getElem_mem hl)
  obtain ⟨f, hf⟩ := fin_of hb.1 hb.2
  have hg : bs.getD (k / 8) 0 = (f.1 : Int) := by rw [List.getD_eq_getElem?_getD, List.getElem?_eq_getElem hl, hf]; rfl
  have hr := orv_range f ⟨k % 8, by omega⟩
  refine ⟨?_, h.bl.setCell (by exact h.far) _, ?_, by rw [List.length_set]; exact h.len, h.far, fun j => ?_⟩
  · have := (h.own.stored (k / 8) (.int .u8 (orv (bs.getD (k / 8) 0) (k % 8)))).1
    rwa [← List.map_set] at this
  · intro b hb'
    rcases List.mem_or_eq_of_mem_set hb' with h1 | rfl
    · exact h.rng b h1
    · rw [hg]; exact hr
  · have hold := h.bit j
    by_cases e8 : j / 8 = k / 8
    · have hnew : bitInt (bs.set (k / 8) (orv (bs.getD (k / 8) 0) (k % 8))) j = (orv (f.1 : Int) (k % 8) / 2 ^ (7 - j % 8)) % 2 := by
        unfold bitInt
        rw [e8, List.getD_eq_getElem?_getD, List.getElem?_set_self hl, hg]
        rfl
      rw [hnew, orv_bit f ⟨k % 8, by omega⟩ ⟨j % 8, by omega⟩]
      by_cases e : j = k
      · subst e; rw [if_pos rfl, if_pos ⟨by omega, he⟩]
      · have hne : ¬ j % 8 = k % 8 := by omega
        rw [if_neg hne]
        have : (f.1 : Int) / 2 ^ (7 - j % 8) % 2 = bitInt bs j := by unfold bitInt; rw [e8, hg]
        rw [this, hold]
        by_cases hj : j < k ∧ (ls.getD j 0) % 2 ≠ 0
        · rw [if_pos hj, if_pos ⟨by omega, hj.2⟩]
        · rw [if_neg hj, if_neg (fun hh => hj ⟨by omega, hh.2⟩)]
    · have hnew : bitInt (bs.set (k / 8) (orv (bs.getD (k / 8) 0) (k % 8))) j = bitInt bs j := by
        unfold bitInt
        rw [List.getD_eq_getElem?_getD, List.getElem?_set_ne (fun hh => e8 hh.symm), ← List.getD_eq_getElem?_getD]
      rw [hnew, hold]
      have e : j ≠ k := fun hh => e8 (by rw [hh])
      by_cases hj : j < k ∧ (ls.getD j 0) % 2 ≠ 0
      · rw [if_pos hj, if_pos ⟨by omega, hj.2⟩]
      · rw [if_neg hj, if_neg (fun hh => hj ⟨by omega, hh.2⟩)]
theorem zero_bits (m j : Nat) : bitInt (List.replicate m 0) j = 0 := by
  unfold bitInt
  have : (List.replicate m (0 : Int)).getD (j / 8) 0 = 0 := by
    rw [List.getD_eq_getElem?_getD, List.getElem?_replicate]
    split <;> rfl
  rw [this]
  simp
theorem made_bytes (m : Nat) : (madeCells (Value.int .u8 0).cells (m * 1)).toList = (List.replicate m (0 : Int)).map (Value.int .u8) := by
  unfold madeCells
  rw [Nat.mul_one]
  apply List.ext_getElem
  · simp
  · intro i h1 h2
    simp [Value.cells, Nat.mod_one]

set_option maxRecDepth 100000 in
set_option maxHeartbeats 1000000 in
theorem bits_any (A : Option Addr) (n c : Nat) (ls : List Int) (w : World) (hV : (Kd.int .i64).C w A n ls) (hn : n ≤ 1000) :
    Calls Try.prog 96 #[.slice A n c] w fun e w' => ∃ bs, e = .returned (.slice (some ⟨w.heap.size, 0, none⟩) ((n + 7) / 8) ((n + 7) / 8)) ∧ Below w.heap.size w w' ∧ Bytes w' (some ⟨w.heap.size, 0, none⟩) ((n + 7) / 8) bs ∧
      ∀ j, bitInt bs j = if j < n ∧ (ls.getD j 0) % 2 ≠ 0 then 1 else 0 := by
  have HV := Lib.hid hV
  have hln : ls.length = n := hV.1
  clear hV
  obtain ⟨i0, hi, hzz⟩ := Option.map_eq_some_iff.1 info5
  simp only [Prod.mk.injEq] at hzz
  obtain ⟨hz0, hz1, hz2⟩ := hzz
  have HI0 := Lib.hid hi
  have HZ0 := Lib.hid hz0
  have HZ1 := Lib.hid hz1
  have HZ2 := Lib.hid hz2
  clear hi hz0 hz1 hz2
  obtain ⟨m, hm⟩ : ∃ m, (n + 7) / 8 = m := ⟨_, rfl⟩
  have hq : ((n : Int) + 7).tdiv 8 = (m : Int) := by rw [Int.tdiv_eq_ediv_of_nonneg (by omega)]; omega
  rw [hm]
  go_enter Try.func96, Try.ntmps96
  go_wp2_with (at_make; refine wpList_make_full w rfl _ _ 24 rfl w.heap.size 5 i0 _ 1 Try.underlying24 HI0.out HZ0.out HZ1.out .i64 .i64 _ _ m rfl rfl (by omega) (by omega) (by rw [HZ2.out]; omega) (by unfold maxLen; omega) (Nat.le_refl _) ?_; intro w1 ho hg; have HO := Lib.hid ho; have HG := Lib.hid hg; clear ho hg)
  have HP : Hid (Pk w w.heap.size m ls (List.replicate m 0) 0 w1) := Lib.hid ⟨by rw [← made_bytes]; exact HO.out, (Below.refl _ _).grown HG.out (Nat.le_refl _) (fun k hk => by cases hk), fun b hb => by rw [(List.mem_replicate.1 hb).2]; decide, by simp, Nat.le_refl _, fun j => by rw [zero_bits, if_neg (by omega)]⟩
  have hm1000 : m ≤ 1000 := by omega
  clear hq
  go_loopw [4] (fun i wr => ∃ (k : Nat) (bs : List Int), k ≤ n ∧ i = .int .i64 k ∧ Hid (Pk w w.heap.size m ls bs k wr)) (fun i _ => n - (intOf i).toNat)
  case atStart => exact ⟨0, _, Nat.zero_le _, rfl, HP⟩
  case round =>
    obtain ⟨k, bs, hk, rfl, hh⟩ := hrel
    by_cases hlt : k < n
    · have hkl : k < ls.length := by omega
      obtain ⟨ad, rfl, hc⟩ := C_int_at (by rw [hln]; exact Kd.C_below HV.out hh.out.bl) hkl
      obtain ⟨x, hx⟩ : ∃ x, ls[k] = x := ⟨_, rfl⟩
      have HX : Hid (ls.getD k 0 = x) := Lib.hid (by rw [List.getD_eq_getElem?_getD, List.getElem?_eq_getElem hkl, hx]; rfl)
      rw [hx] at hc
      clear hx
      have hmod : x.tmod 2 = 0 ↔ x % 2 = 0 := by
        constructor
        · intro h
          exact Int.emod_eq_zero_of_dvd (Int.dvd_of_tmod_eq_zero h)
        · intro h
          exact Int.tmod_eq_zero_of_dvd (Int.dvd_of_emod_eq_zero h)
      by_cases he : x % 2 = 0
      · have hP := hh.out.even (by rw [HX.out]; exact he)
        have HP2 := Lib.hid hP
        have b1 : (x.tmod 2 != 0) = false := by simp [hmod.2 he]
        clear hP hmod he
        go_wp2
        go_roundw
        case rel => exact ⟨k + 1, bs, by omega, by go_num, HP2⟩
        case measure => simp [intOf]; omega
      · have hk8 : k / 8 < m := by omega
        have hP := hh.out.odd (by rw [HX.out]; exact he) hk8
        have HP2 := Lib.hid hP
        have b1 : (x.tmod 2 != 0) = true := by simp; exact fun h => he (hmod.1 h)
        clear hP hmod he
        have hbl : k / 8 < bs.length := by rw [hh.out.len]; exact hk8
        obtain ⟨b, hb⟩ : ∃ b, bs.getD (k / 8) 0 = b := ⟨_, rfl⟩
        have hbr : 0 ≤ b ∧ b < 256 := by
          rw [← hb, List.getD_eq_getElem?_getD, List.getElem?_eq_getElem hbl]
          exact hh.out.rng _ (List.getElem_mem hbl)
        have hcell : wr.cell? ⟨w.heap.size, k / 8, none⟩ = some (.int .u8 b) := by
          rw [hh.out.own.cellAt (k / 8) (by omega), List.getElem?_map, List.getElem?_eq_getElem hbl, ← hb, List.getD_eq_getElem?_getD, List.getElem?_eq_getElem hbl]; rfl
        have hfr : wr.frozen? ⟨w.heap.size, k / 8, none⟩ = false := hh.out.own.frozenAt _
        rw [hb] at HP2
        have HB := Lib.hid hb
        clear hb
        obtain ⟨f, hf⟩ := fin_of hbr.1 hbr.2
        have hor : bits .or .u8 b (128 / 2 ^ (k % 8)) = orv b (k % 8) := by rw [← hf]; exact or_byte f ⟨k % 8, by omega⟩
        clear hf
        have q1 : (k : Int).tdiv 8 = ((k / 8 : Nat) : Int) := by rw [Int.tdiv_eq_ediv_of_nonneg (by omega)]; omega
        have q2 : (k : Int).tmod 8 = ((k % 8 : Nat) : Int) := by rw [Int.tmod_eq_emod_of_nonneg (by omega)]; omega
        have q3 : ((k / 8 : Nat) : Int) < (m : Int) := by omega
        have q4 : (0 : Int) ≤ ((k % 8 : Nat) : Int) := by omega
        go_wp2
        go_roundw
        case rel => exact ⟨k + 1, _, by omega, by go_num, HP2⟩
        case measure => simp [intOf]; omega
    · obtain rfl : k = n := by omega
      go_wp2
      go_ret
      refine ⟨bs, rfl, hh.out.bl, ⟨?_, by omega, hh.out.rng⟩, hh.out.bit⟩
      exact int_row ⟨by simp [hh.out.len], fun _ => ⟨_, rfl, fun j u hu => hh.out.own.cells (g := w.heap.size) rfl j u hu⟩⟩ (by omega)
end Go.Proofs.Ythjfigaalknoiaa
