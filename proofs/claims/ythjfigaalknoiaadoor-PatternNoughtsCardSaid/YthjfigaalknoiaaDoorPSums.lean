/- PatternSums and PatternNoughts return true: the walks. -/
import Derived.Test.YthjfigaalknoiaaDoorLaws7
import Derived.Test.YthjfigaalknoiaaDoorPick
set_option linter.unusedVariables false
set_option linter.unusedSimpArgs false
namespace Go.Proofs.YthjfigaalknoiaaDoor
open Go.RowKit Go.Proofs.YthjfigaalknoiaaDoorW.PrintWords Pt

/-- What the blocks that a pattern says stand for, from block -1 on. -/
def psum (n : Int) : Nat → Nat
  | 0 => 0
  | k + 1 => psum n k + if phas n ((k : Int) - 1) then 2 ^ (7 - k) else 0
def pmany (n : Int) : Nat → Nat
  | 0 => 0
  | k + 1 => pmany n k + if phas n ((k : Int) - 1) then 1 else 0
theorem psum_in : ∀ m : Fin 64, 1 ≤ m.1 → psum (m.1 : Int) 10 = m.1 ∧ pmany (m.1 : Int) 10 = pcount (m.1 : Int) 6 := by decide +kernel
theorem psum_out {n : Int} (h : n < 1 ∨ 63 < n) : psum n 10 = 0 ∧ pmany n 10 = 0 ∧ pcount n 6 = 0 := by
  have hp : ∀ b, phas n b = false := fun b => phas_out (by unfold pin; omega)
  simp [psum, pmany, pcount, hp]
theorem psum_le (n : Int) : ∀ k, k ≤ 10 → psum n k ≤ 1280 ∧ pmany n k ≤ k := by
  intro k hk
  have : ∀ k, k ≤ 10 → psum n k ≤ 128 * k ∧ pmany n k ≤ k := by
    intro k
    induction k with
    | zero => intro _; exact ⟨Nat.le_refl _, Nat.le_refl _⟩
    | succ k ih =>
      intro hk
      have h := ih (by omega)
      have h2 : 2 ^ (7 - k) ≤ 128 := by
        have : 2 ^ (7 - k) ≤ 2 ^ 7 := Nat.pow_le_pow_right (by omega) (by omega)
        omega
      unfold psum pmany
      split <;> omega
  have h := this k hk
  exact ⟨by omega, h.2⟩

set_option maxRecDepth 100000 in
set_option maxHeartbeats 8000000 in
theorem psums_any (n : Int) (w : World) (hsp : Spaces w) :
    Calls Tryd.prog 8 #[.int .i64 n] w fun e w' => e = .returned (.bool true) ∧ Below w.heap.size w w' := by
  have HSP := Lib.hid hsp
  clear hsp
  go_enter Tryd.func8, Tryd.ntmps8
  go_wp2_with fail
  refine (known7_any w HSP.out).mono ?_
  rintro e w1 ⟨rfl, hb⟩
  have HB1 := Lib.hid hb
  clear hb
  go_wp2
  go_loopw [4, 5, 6] (fun s c i wr => ∃ k : Nat, k ≤ 10 ∧ i = .int .i64 ((k : Int) - 1) ∧ s = .int .i64 (psum n k : Nat) ∧ c = .int .i64 (pmany n k : Nat) ∧ Hid (Below w.heap.size w wr)) (fun _ _ i _ => (9 - intOf i).toNat)
  case atStart => exact ⟨0, by omega, rfl, rfl, rfl, HB1⟩
  case round =>
    obtain ⟨k, hk, rfl, rfl, rfl, hb⟩ := hrel
    have hle := psum_le n k hk
    have HS1 : Hid (psum n (k + 1) = psum n k + if phas n ((k : Int) - 1) then 2 ^ (7 - k) else 0) := Lib.hid rfl
    have HS2 : Hid (pmany n (k + 1) = pmany n k + if phas n ((k : Int) - 1) then 1 else 0) := Lib.hid rfl
    by_cases hlt : k < 10
    · obtain ⟨a, ha⟩ : ∃ a, psum n k = a := ⟨_, rfl⟩
      obtain ⟨m, hm⟩ : ∃ m, pmany n k = m := ⟨_, rfl⟩
      rw [ha, hm] at hle
      rw [ha] at HS1 ⊢
      rw [hm] at HS2 ⊢
      clear ha hm
      have hlt2 : (k : Int) - 1 ≤ 8 := by omega
      by_cases ht : phas n ((k : Int) - 1) = true
      · rw [if_pos ht] at HS1 HS2
        have hin : pin n ((k : Int) - 1) := by
          by_cases h : pin n ((k : Int) - 1)
          · exact h
          · rw [phas_out h] at ht; cases ht
        have hkk : k = 2 ∨ k = 3 ∨ k = 4 ∨ k = 5 ∨ k = 6 ∨ k = 7 := by obtain ⟨_, _, h3, h4⟩ := hin; omega
        have HT := Lib.hid ht
        clear ht hin
        rcases hkk with rfl | rfl | rfl | rfl | rfl | rfl
        all_goals
          simp only [Int.cast_ofNat_Int, Int.reduceSub, Nat.reduceAdd, Nat.reduceSub, Nat.reducePow] at HT HS1 HS2 ⊢
          go_wp2_with fail
          refine (has_any n _ wr).mono ?_
          rw [HT.out]
          rintro e w' ⟨rfl, hb2⟩
          have HB2 := Lib.hid (hb.out.trans (hb2.mono hb.out.size))
          clear hb2
          go_wp2
          go_roundw
          case rel => first | exact ⟨3, by omega, rfl, by rw [HS1.out]; go_num, by rw [HS2.out]; go_num, HB2⟩ | exact ⟨4, by omega, rfl, by rw [HS1.out]; go_num, by rw [HS2.out]; go_num, HB2⟩ | exact ⟨5, by omega, rfl, by rw [HS1.out]; go_num, by rw [HS2.out]; go_num, HB2⟩ | exact ⟨6, by omega, rfl, by rw [HS1.out]; go_num, by rw [HS2.out]; go_num, HB2⟩ | exact ⟨7, by omega, rfl, by rw [HS1.out]; go_num, by rw [HS2.out]; go_num, HB2⟩ | exact ⟨8, by omega, rfl, by rw [HS1.out]; go_num, by rw [HS2.out]; go_num, HB2⟩
          case measure => simp [intOf]
      · have htf : phas n ((k : Int) - 1) = false := by simpa using ht
        rw [if_neg (by simp [htf]), Nat.add_zero] at HS1 HS2
        have HT := Lib.hid htf
        clear ht htf
        go_wp2_with fail
        refine (has_any n ((k : Int) - 1) wr).mono ?_
        rw [HT.out]
        rintro e w' ⟨rfl, hb2⟩
        have HB2 := Lib.hid (hb.out.trans (hb2.mono hb.out.size))
        clear hb2
        go_wp2
        go_roundw
        case rel => exact ⟨k + 1, by omega, by go_num, by rw [HS1.out]; go_num, by rw [HS2.out]; go_num, HB2⟩
        case measure => simp [intOf]; omega
    · obtain rfl : k = 10 := by omega
      clear HS1 HS2
      by_cases hn : n < 1 ∨ 63 < n
      · obtain ⟨h1, h2, h3⟩ := psum_out hn
        have H3 := Lib.hid h3
        rw [h1, h2]
        clear h1 h2 h3
        by_cases hn1 : n < 1
        · clear hn
          go_wp2_with fail
          refine (pcnt_any n wr).mono ?_
          rw [H3.out]
          rintro e w' ⟨rfl, hb2⟩
          have HB2 := Lib.hid (hb.out.trans (hb2.mono hb.out.size))
          clear hb2
          go_wp2
          go_ret
          exact ⟨rfl, HB2.out⟩
        · have hn2 : 63 < n := by omega
          clear hn
          go_wp2_with fail
          refine (pcnt_any n wr).mono ?_
          rw [H3.out]
          rintro e w' ⟨rfl, hb2⟩
          have HB2 := Lib.hid (hb.out.trans (hb2.mono hb.out.size))
          clear hb2
          go_wp2
          go_ret
          exact ⟨rfl, HB2.out⟩
      · have hn1 : ¬ n < 1 := by omega
        have hn2 : ¬ 63 < n := by omega
        obtain ⟨q, rfl⟩ : ∃ q : Nat, n = (q : Int) := ⟨n.toNat, by omega⟩
        obtain ⟨h1, h2⟩ := psum_in ⟨q, by omega⟩ (by show 1 ≤ q; omega)
        simp only at h1 h2
        obtain ⟨m, hm⟩ : ∃ m, pcount (q : Int) 6 = m := ⟨_, rfl⟩
        have HM := Lib.hid hm
        rw [hm] at h2
        rw [h1, h2]
        have b1 : ((q : Int) == (q : Int)) = true := by simp
        have b2 : ((m : Int) == (m : Int)) = true := by simp
        clear hn h1 h2 hm hle
        go_wp2_with fail
        refine (pcnt_any (q : Int) wr).mono ?_
        rw [HM.out]
        rintro e w' ⟨rfl, hb2⟩
        have HB2 := Lib.hid (hb.out.trans (hb2.mono hb.out.size))
        clear hb2
        go_wp2
        go_ret
        exact ⟨rfl, HB2.out⟩

theorem nought_ans : ∀ m : Fin 512, (m.1 < 2 → (ansAt pcs pns [(m.1 : Int) / 2, (m.1 : Int) * 128 % 256] 2 0).v = 0 ∧ (ansAt pcs pns [(m.1 : Int) / 2, (m.1 : Int) * 128 % 256] 2 0).n = 0 ∧ (ansAt pcs pns [(m.1 : Int) / 2, (m.1 : Int) * 128 % 256] 2 0).e = 7) ∧
    (¬ m.1 < 2 → 1 ≤ (ansAt pcs pns [(m.1 : Int) / 2, (m.1 : Int) * 128 % 256] 2 0).v ∧ (ansAt pcs pns [(m.1 : Int) / 2, (m.1 : Int) * 128 % 256] 2 0).v ≤ 63 ∧ 3 ≤ (ansAt pcs pns [(m.1 : Int) / 2, (m.1 : Int) * 128 % 256] 2 0).n ∧ (ansAt pcs pns [(m.1 : Int) / 2, (m.1 : Int) * 128 % 256] 2 0).n ≤ 9 ∧ (ansAt pcs pns [(m.1 : Int) / 2, (m.1 : Int) * 128 % 256] 2 0).e = 0) := by decide +kernel

set_option maxRecDepth 100000 in
set_option maxHeartbeats 4000000 in
theorem pnoughts_any (x : Int) (w : World) (hsp : Spaces w) :
    Calls Tryd.prog 3 #[.int .i64 x] w fun e w' => e = .returned (.bool true) ∧ Below w.heap.size w w' := by
  have HSP := Lib.hid hsp
  clear hsp
  obtain ⟨m, hm⟩ : ∃ m : Nat, x % 512 = (m : Int) := ⟨(x % 512).toNat, by omega⟩
  have hm512 : m < 512 := by omega
  have HM := Lib.hid hm
  obtain ⟨an, han⟩ : ∃ an, ansAt pcs pns [(m : Int) / 2, (m : Int) * 128 % 256] 2 0 = an := ⟨_, rfl⟩
  have hno := nought_ans ⟨m, hm512⟩
  simp only [han] at hno
  have HAN := Lib.hid han
  have HNO := Lib.hid hno
  clear hm han hno
  go_enter Tryd.func3, Tryd.ntmps3
  go_wp2_with fail
  refine (awake7_any w HSP.out).mono ?_
  rintro e w1 ⟨rfl, hb⟩
  have HB1 := Lib.hid hb
  clear hb
  go_wp2_with fail
  refine (pick_any x 512 w1 (by decide) (by decide)).mono ?_
  rw [HM.out]
  rintro e w' ⟨rfl, rfl⟩
  go_wp2_with fail
  refine (pget_any _ 2 2 [(m : Int) / 2, (m : Int) * 128 % 256] 0 _ (HSP.out.below (below_alloc HB1.out _)) (Bytes_lit (t := 5) (cur := #[.int .u8 ((m : Int) / 2), .int .u8 ((m : Int) * 128 % 256)]) (at_alloc _ _ rfl) [(m : Int) / 2, (m : Int) * 128 % 256] rfl (by simp) (by
    intro b hb
    simp at hb
    rcases hb with rfl | rfl <;> omega)) (by decide)).mono ?_
  rw [HAN.out]
  rintro e w2 ⟨rfl, hb⟩
  have HB2 := Lib.hid (below_step (below_alloc HB1.out _) hb)
  clear hb
  simp only []
  obtain ⟨v, hv⟩ : ∃ v, an.v = v := ⟨_, rfl⟩
  obtain ⟨n, hn⟩ : ∃ n, an.n = n := ⟨_, rfl⟩
  obtain ⟨er, her⟩ : ∃ er, an.e = er := ⟨_, rfl⟩
  have hno := HNO.out
  rw [hv, hn, her] at hno
  rw [hv, hn, her]
  clear hv hn her HNO HAN
  by_cases h2 : m < 2
  · obtain ⟨rfl, rfl, rfl⟩ := hno.1 h2
    have hm2 : (m : Int) < 2 := by omega
    clear hno
    go_wp2
    go_ret
    exact ⟨rfl, HB2.out⟩
  · obtain ⟨h3, h4, h5, h6, rfl⟩ := hno.2 h2
    have hm2 : ¬ (m : Int) < 2 := by omega
    clear hno
    go_wp2
    go_ret
    exact ⟨rfl, HB2.out⟩
end Go.Proofs.YthjfigaalknoiaaDoor
