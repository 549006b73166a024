/- bits.Pen: a text of 0 and 1 is written; the bytes are handed out. -/
import Derived.Test.YthjfigaalknoiaaPen
import Derived.Lib.OthersKept
set_option linter.unusedVariables false
set_option linter.unusedSimpArgs false
namespace Go.Proofs.Ythjfigaalknoiaa
open Go.RowKit Go.Proofs.YthjfigaalknoiaaW.PrintWords

theorem bitsOf_take {s : ByteArray} {k : Nat} (hk : k < s.size) : (bitsOf s).take (k + 1) = (bitsOf s).take k ++ [s[k] == 49] := by
  have hl : k < (bitsOf s).length := by rw [bitsOf_length]; exact hk
  rw [List.take_succ_eq_append_getElem hl]
  congr 2
  simp [bitsOf]
  rfl

set_option maxRecDepth 100000 in
set_option maxHeartbeats 2000000 in
theorem pcode_any {B : Nat} {w0 w : World} {p : Nat} {l : List Bool} {v : Value} {bs : List Int} (h : PenAt B w0 w p l v bs) (hB : B ≤ w.heap.size) (s : ByteArray) (hs : isCode s = true) (hl : l.length + s.size ≤ 99999) :
    Calls Try.prog 50 #[.pointer (some ⟨p, 0, none⟩), .string s] w fun e w' => e = .returned (.int .i64 0) ∧ (∃ v' bs', PenAt B w0 w' p (l ++ bitsOf s) v' bs') ∧ B ≤ w'.heap.size := by
  obtain ⟨c0, c1, c2⟩ := h.cells
  have HP := Lib.hid h
  have HC := Lib.hid hs
  have hsz := (isCode_size hs).1
  have hplt : p < w.heap.size := (Array.getElem?_eq_some_iff.1 h.hp).1
  clear h hs
  go_enter Try.func50, Try.ntmps50
  go_wp2_with fail
  refine (pnone_any p w c2).mono ?_
  rintro e w' ⟨rfl, rfl⟩
  go_wp2
  go_loop [13] (fun i => ∃ k : Nat, k ≤ s.size ∧ i = .int .i64 k) (fun i => s.size - (intOf i).toNat)
  case atStart => exact ⟨0, Nat.zero_le _, rfl⟩
  case round =>
    obtain ⟨k, hk, rfl⟩ := hrel
    by_cases hlt : k < s.size
    · rcases byte_bits HC.out hlt with ⟨h48, _⟩ | ⟨h49, _⟩
      · have b0 : ((s[k].toNat : Int) != 48) = false := by simp [h48]
        clear h48
        go_wp2
        go_round
        case rel => exact ⟨k + 1, by omega, by go_num⟩
        case measure => simp [intOf]; omega
      · have b0 : ((s[k].toNat : Int) != 48) = true := by simp [h49]
        have b1 : ((s[k].toNat : Int) != 49) = false := by simp [h49]
        clear h49
        go_wp2
        go_round
        case rel => exact ⟨k + 1, by omega, by go_num⟩
        case measure => simp [intOf]; omega
    · obtain rfl : k = s.size := by omega
      go_wp2_with fail
      refine (pfull_any p (l.length : Int) (s.size : Int) w c1 (by omega) (by omega) (by omega) (by omega)).mono ?_
      rintro e w' ⟨rfl, rfl⟩
      go_wp2
      have HI0 : Hid ((w.iter s 0).heap[w.heap.size]? = some (.stringIter s 0)) := Lib.hid (World.iter_heap w s 0)
      have HP0 : Hid (PenAt B w0 (w.iter s 0) p (l ++ (bitsOf s).take 0) v bs) := Lib.hid (by
        rw [List.take_zero, List.append_nil]
        exact HP.out.below (below_alloc (Below.refl _ _) _) hB)
      have HB0 : Hid (B ≤ (w.iter s 0).heap.size) := Lib.hid (Nat.le_trans hB (by
        have : (w.alloc (.stringIter s 0)).heap.size = w.heap.size + 1 := by simp
        exact Nat.le_trans (Nat.le_succ _) (Nat.le_of_eq this.symm)))
      go_loopw [] (fun wr => ∃ (pos : Nat) (v' : Value) (bs' : List Int), pos ≤ s.size ∧ Hid (wr.heap[w.heap.size]? = some (.stringIter s pos)) ∧ Hid (PenAt B w0 wr p (l ++ (bitsOf s).take pos) v' bs') ∧ Hid (B ≤ wr.heap.size)) (fun wr => s.size - wr.iterPos w.heap.size)
      case atStart => exact ⟨0, v, bs, Nat.zero_le _, HI0, HP0, HB0⟩
      case round =>
        clear HI0 HP0 HB0 c0 c1 c2
        obtain ⟨pos, v', bs', hpos, hit, hPr, hBr⟩ := hrel
        have hit := hit.out
        have hPr := hPr.out
        have hBr := hBr.out
        have hksz : w.heap.size < wr.heap.size := (Array.getElem?_eq_some_iff.1 hit).1
        by_cases hlt2 : pos < s.size
        · have hbw2 : ∀ j, j ≠ w.heap.size → (wr.iterAt w.heap.size s (pos + 1)).heap[j]? = wr.heap[j]? := fun j hj => Lib.iterAt_other wr w.heap.size j s (pos + 1) hj
          have hit2 := Lib.iterAt_heap wr w.heap.size s pos (pos + 1) hit
          have hB2 : B ≤ (wr.iterAt w.heap.size s (pos + 1)).heap.size := by rw [Lib.iterAt_size]; exact hBr
          have hP2 : PenAt B w0 (wr.iterAt w.heap.size s (pos + 1)) p (l ++ (bitsOf s).take pos) v' bs' := by
            have hne := own_ne hPr.own hit (by intro cur fz h; cases h)
            exact ⟨Lib.below_iterAt hPr.bl hB s _, hPr.far, (hbw2 _ (by omega)).trans hPr.hp, own_move hPr.own (fun k hk => hbw2 k (fun e => hne (by rw [hk, e]))), hPr.rng, hPr.len, hPr.bit⟩
          rcases byte_bits HC.out hlt2 with ⟨hb48, _⟩ | ⟨hb48, _⟩
          · have hcall : ∀ W v' bs', PenAt B w0 W p (l ++ (bitsOf s).take pos) v' bs' → B ≤ W.heap.size → Calls Try.prog 88 #[.pointer (some ⟨p, 0, none⟩), .int .i64 0] W fun e w' => e = .returned (.tuple #[]) ∧ (∃ v' bs', PenAt B w0 w' p (l ++ (bitsOf s).take pos ++ [false]) v' bs') ∧ B ≤ w'.heap.size ∧ ∀ k o, W.heap[k]? = some o → (∀ cur fz, o ≠ .cells cur 5 fz) → k ≠ p → w'.heap[k]? = some o := fun W v' bs' hP hB' => pwrite_any hP hB' (by rw [List.length_append, List.length_take]; omega) false
            have hcall2 := hcall _ v' bs' hP2 hB2
            have HBIT : Hid ((bitsOf s).take (pos + 1) = (bitsOf s).take pos ++ [false]) := Lib.hid (by rw [bitsOf_take hlt2]; congr 2; have : s[pos] = 48 := UInt8.toNat.inj (by show s[pos].toNat = 48; omega); rw [this]; rfl)
            have hasc : s[pos].toNat < 128 := by omega
            have hnx : ∀ ty, (Instr.next (.pointer (some ⟨w.heap.size, 0, none⟩)) true ty).run Try.prog wr = .ok (.tuple #[.bool true, .int .i64 pos, .int .i32 48]) (wr.iterAt w.heap.size s (pos + 1)) := fun ty => by
              have := Lib.run_next_ascii_at (P := Try.prog) wr w.heap.size s pos ty hit hlt2 hasc
              rw [hb48] at this
              exact this
            have HIT := Lib.hid hit
            have HIT2 := Lib.hid hit2
            clear hcall hP2 hB2 hasc hb48 hit hit2 hbw2
            go_wp2_with fail
            refine hcall2.mono ?_
            rintro e W1 ⟨rfl, ⟨v2, bs2, hP3⟩, hB3, hk3⟩
            have hit3 := hk3 w.heap.size _ HIT2.out (by intro cur fz h; cases h) (by omega)
            rw [List.append_assoc, ← HBIT.out] at hP3
            have HP3 := Lib.hid hP3
            have HIT3 := Lib.hid hit3
            have HB3 := Lib.hid hB3
            clear hP3 hit3 hk3 hB3 hcall2 hnx
            go_wp2
            go_roundw
            case rel => exact ⟨pos + 1, v2, bs2, by omega, HIT3, HP3, HB3⟩
            case measure =>
              simp only [World.iterPos, HIT3.out, HIT.out]
              omega
          · have hcall : ∀ W v' bs', PenAt B w0 W p (l ++ (bitsOf s).take pos) v' bs' → B ≤ W.heap.size → Calls Try.prog 88 #[.pointer (some ⟨p, 0, none⟩), .int .i64 1] W fun e w' => e = .returned (.tuple #[]) ∧ (∃ v' bs', PenAt B w0 w' p (l ++ (bitsOf s).take pos ++ [true]) v' bs') ∧ B ≤ w'.heap.size ∧ ∀ k o, W.heap[k]? = some o → (∀ cur fz, o ≠ .cells cur 5 fz) → k ≠ p → w'.heap[k]? = some o := fun W v' bs' hP hB' => pwrite_any hP hB' (by rw [List.length_append, List.length_take]; omega) true
            have hcall2 := hcall _ v' bs' hP2 hB2
            have HBIT : Hid ((bitsOf s).take (pos + 1) = (bitsOf s).take pos ++ [true]) := Lib.hid (by rw [bitsOf_take hlt2]; congr 2; have : s[pos] = 49 := UInt8.toNat.inj (by show s[pos].toNat = 49; omega); rw [this]; rfl)
            have hasc : s[pos].toNat < 128 := by omega
            have hnx : ∀ ty, (Instr.next (.pointer (some ⟨w.heap.size, 0, none⟩)) true ty).run Try.prog wr = .ok (.tuple #[.bool true, .int .i64 pos, .int .i32 49]) (wr.iterAt w.heap.size s (pos + 1)) := fun ty => by
              have := Lib.run_next_ascii_at (P := Try.prog) wr w.heap.size s pos ty hit hlt2 hasc
              rw [hb48] at this
              exact this
            have HIT := Lib.hid hit
            have HIT2 := Lib.hid hit2
            clear hcall hP2 hB2 hasc hb48 hit hit2 hbw2
            go_wp2_with fail
            refine hcall2.mono ?_
            rintro e W1 ⟨rfl, ⟨v2, bs2, hP3⟩, hB3, hk3⟩
            have hit3 := hk3 w.heap.size _ HIT2.out (by intro cur fz h; cases h) (by omega)
            rw [List.append_assoc, ← HBIT.out] at hP3
            have HP3 := Lib.hid hP3
            have HIT3 := Lib.hid hit3
            have HB3 := Lib.hid hB3
            clear hP3 hit3 hk3 hB3 hcall2 hnx
            go_wp2
            go_roundw
            case rel => exact ⟨pos + 1, v2, bs2, by omega, HIT3, HP3, HB3⟩
            case measure =>
              simp only [World.iterPos, HIT3.out, HIT.out]
              omega
        · have hnx : ∀ ty, (Instr.next (.pointer (some ⟨w.heap.size, 0, none⟩)) true ty).run Try.prog wr = _ := fun ty => Lib.run_next_end_at wr w.heap.size s pos ty hit hlt2
          have HPR := Lib.hid hPr
          have HBR := Lib.hid hBr
          clear hPr hBr hit
          go_wp2
          go_ret
          refine ⟨rfl, ⟨v', bs', ?_⟩, HBR.out⟩
          have := HPR.out
          rwa [List.take_of_length_le (by rw [bitsOf_length]; omega)] at this
end Go.Proofs.Ythjfigaalknoiaa
