/- KindBack returns true: the walk. -/
import Derived.Test.YthjfigaalknoiaaWrote
import Derived.Test.YthjfigaalknoiaaKLaws
import Derived.Test.YthjfigaalknoiaaVLaws
set_option linter.unusedVariables false
set_option linter.unusedSimpArgs false
namespace Go.Proofs.Ythjfigaalknoiaa
open Go.RowKit Go.Proofs.YthjfigaalknoiaaW.PrintWords Pt

/-- The code of the kind that a number picks. -/
def kcd (x : Int) : ByteArray := kcs.getD (x % 10).toNat ⟨#[]⟩
/-- The bits of the kinds that numbers pick. -/
def kw (ls : List Int) : List Bool := ls.flatMap fun x => bitsOf (kcd x)
def aheadBits (n : Nat) : List Bool := (List.range n).map fun i => i % 2 == 1
theorem aheadBits_length (n : Nat) : (aheadBits n).length = n := by simp [aheadBits]
theorem aheadBits_succ (n : Nat) : aheadBits (n + 1) = aheadBits n ++ [n % 2 == 1] := by simp [aheadBits, List.range_succ]
theorem kcs_ok : ∀ k : Fin 10, isCode (kcs.getD k.1 ⟨#[]⟩) = true ∧ 1 ≤ (kcs.getD k.1 ⟨#[]⟩).size ∧ (kcs.getD k.1 ⟨#[]⟩).size ≤ 10 ∧ rlook kcs kns (1 + (k.1 : Int)) = (kcs.getD k.1 ⟨#[]⟩, 0) := by decide +kernel
theorem kcd_ok (x : Int) : isCode (kcd x) = true ∧ 1 ≤ (kcd x).size ∧ (kcd x).size ≤ 10 ∧ rlook kcs kns (1 + x % 10) = (kcd x, 0) ∧ kcs[(x % 10).toNat]? = some (kcd x) ∧ kns[(x % 10).toNat]? = some (1 + x % 10) := by
  have h := kcs_ok ⟨(x % 10).toNat, by omega⟩
  have e : (((x % 10).toNat : Nat) : Int) = x % 10 := by omega
  simp only [e] at h
  refine ⟨h.1, h.2.1, h.2.2.1, h.2.2.2, kcs_at _ (by omega), ?_⟩
  rw [kns_at _ (by omega), e, Int.add_comm]
theorem kw_take {ls : List Int} {j : Nat} (hj : j < ls.length) : kw (ls.take (j + 1)) = kw (ls.take j) ++ bitsOf (kcd ls[j]) := by
  unfold kw
  rw [List.take_succ_eq_append_getElem hj, List.flatMap_append]
  simp
theorem kw_length : ∀ ls : List Int, (kw ls).length ≤ 10 * ls.length
  | [] => by simp [kw]
  | x :: ls => by
    have ih := kw_length ls
    have h := (kcd_ok x).2.2.1
    unfold kw at ih ⊢
    rw [List.flatMap_cons, List.length_append, bitsOf_length, List.length_cons]
    omega
theorem kw_split {ls : List Int} {j : Nat} (hj : j < ls.length) : kw ls = kw (ls.take j) ++ bitsOf (kcd ls[j]) ++ kw (ls.drop (j + 1)) := by
  rw [← kw_take hj]
  unfold kw
  rw [← List.flatMap_append, List.take_append_drop]

set_option maxRecDepth 100000 in
set_option maxHeartbeats 4000000 in
theorem kback_any (A : Option Addr) (n c : Nat) (ls : List Int) (i0 : Int) (w : World) (hV : (Kd.int .i64).C w A n ls) :
    Calls Try.prog 17 #[.slice A n c, .int .i64 i0] w fun e w' => e = .returned (.bool true) ∧ Below w.heap.size w w' := by
  have HV := Lib.hid hV
  have hln : ls.length = n := hV.1
  have hlm : n ≤ 9223372036854775807 := by have := hV.2.1; omega
  clear hV
  by_cases hn : 60 < n
  · have hn2 : (60 : Int) < (n : Int) := by omega
    clear hln
    go_enter Try.func17, Try.ntmps17
    go_wp2_with fail
    refine (known5_any w).mono ?_
    rintro e w1 ⟨rfl, hb⟩
    have HB1 := Lib.hid hb
    clear hb
    go_wp2_with fail
    refine (newpen_any w1).mono ?_
    rintro e w2 ⟨rfl, hP⟩
    have HB2 := Lib.hid (below_step HB1.out hP.bl)
    clear hP
    go_wp2
    go_ret
    exact ⟨rfl, HB2.out⟩
  · have hn2 : ¬ (60 : Int) < (n : Int) := by omega
    obtain ⟨a, ha⟩ : ∃ a : Nat, i0 % 41 = (a : Int) := ⟨(i0 % 41).toNat, by omega⟩
    have ha41 : a < 41 := by omega
    have HA := Lib.hid ha
    have HLn := Lib.hid hln
    clear ha hln
    go_enter Try.func17, Try.ntmps17
    go_wp2_with fail
    refine (known5_any w).mono ?_
    rintro e w1 ⟨rfl, hb⟩
    have HB1 := Lib.hid hb
    clear hb
    go_wp2_with fail
    refine (newpen_any w1).mono ?_
    rintro e w2 ⟨rfl, hP⟩
    have HP2 := Lib.hid hP
    have HBs := Lib.hid (Nat.le_trans (Nat.le_of_lt (Array.getElem?_eq_some_iff.1 hP.hp).1) (Nat.le_refl _))
    clear hP
    go_wp2_with fail
    refine (pick_any i0 41 w2 (by decide) (by decide)).mono ?_
    rw [HA.out]
    rintro e w' ⟨rfl, rfl⟩
    go_wp2
    go_loopw [7] (fun i wr => ∃ (k : Nat) (v : Value) (bs : List Int), k ≤ a ∧ i = .int .i64 k ∧ Hid (PenAt w1.heap.size w1 wr w1.heap.size (aheadBits k) v bs) ∧ Hid (w1.heap.size ≤ wr.heap.size)) (fun i _ => a - (intOf i).toNat)
    case atStart => exact ⟨0, _, _, Nat.zero_le _, rfl, HP2, HBs⟩
    case round =>
      obtain ⟨k, v, bs, hk, rfl, hP, hBs⟩ := hrel
      by_cases hlt : k < a
      · rcases (show k % 2 = 0 ∨ k % 2 = 1 by omega) with hpar | hpar
        · have hm : (k : Int) % 2 = 0 := by omega
          have hcall : Calls Try.prog 69 #[.pointer (some ⟨w1.heap.size, 0, none⟩), .int .i64 0, .int .i64 1] wr _ := pput_one hP.out hBs.out (by rw [aheadBits_length]; omega) false
          have HBIT : Hid (aheadBits (k + 1) = aheadBits k ++ [false]) := Lib.hid (by rw [aheadBits_succ]; congr 2; simp; omega)
          go_wp2_with fail
          refine hcall.mono ?_
          rintro e w' ⟨rfl, ⟨v', bs', hP2⟩, hB2⟩
          rw [← HBIT.out] at hP2
          have HP3 := Lib.hid hP2
          have HB3 := Lib.hid hB2
          clear hP2 hB2 hcall hm
          go_wp2
          go_roundw
          case rel => exact ⟨k + 1, v', bs', by omega, by go_num, HP3, HB3⟩
          case measure => simp [intOf]; omega
        · have hm : (k : Int) % 2 = 1 := by omega
          have hcall : Calls Try.prog 69 #[.pointer (some ⟨w1.heap.size, 0, none⟩), .int .i64 1, .int .i64 1] wr _ := pput_one hP.out hBs.out (by rw [aheadBits_length]; omega) true
          have HBIT : Hid (aheadBits (k + 1) = aheadBits k ++ [true]) := Lib.hid (by rw [aheadBits_succ]; congr 2; simp; omega)
          go_wp2_with fail
          refine hcall.mono ?_
          rintro e w' ⟨rfl, ⟨v', bs', hP2⟩, hB2⟩
          rw [← HBIT.out] at hP2
          have HP3 := Lib.hid hP2
          have HB3 := Lib.hid hB2
          clear hP2 hB2 hcall hm
          go_wp2
          go_roundw
          case rel => exact ⟨k + 1, v', bs', by omega, by go_num, HP3, HB3⟩
          case measure => simp [intOf]; omega
      · obtain rfl : k = a := by omega
        clear hlt hk
        clear HP2 HBs HA
        obtain ⟨wo, hwo⟩ : ∃ wo, wo = wr := ⟨_, rfl⟩
        subst hwo
        have hB1w : w.heap.size ≤ w1.heap.size := HB1.out.size
        go_wp2
        go_loopw [8] (fun i wr => ∃ (j : Nat) (v : Value) (bs : List Int), j ≤ n ∧ i = .int .i64 j ∧ Hid (PenAt w1.heap.size w1 wr w1.heap.size (aheadBits k ++ kw (ls.take j)) v bs) ∧ Hid (w1.heap.size ≤ wr.heap.size)) (fun i _ => n - (intOf i).toNat)
        case atStart => exact ⟨0, v, bs, Nat.zero_le _, rfl, by rw [List.take_zero]; show Hid (PenAt _ _ _ _ (aheadBits k ++ []) _ _); rw [List.append_nil]; exact hP, hBs⟩
        case round =>
          clear hP hBs
          clear v bs
          obtain ⟨j, v, bs, hj, rfl, hP, hBs⟩ := hrel
          by_cases hlt : j < n
          · have hjl : j < ls.length := by rw [HLn.out]; exact hlt
            have HBW : Hid (Below w.heap.size w wr) := Lib.hid (HB1.out.trans (hP.out.bl.mono hB1w))
            obtain ⟨ad, rfl, hc⟩ := C_int_at (by rw [HLn.out]; exact Kd.C_below HV.out HBW.out) hjl
            obtain ⟨x, hx⟩ : ∃ x, ls[j] = x := ⟨_, rfl⟩
            obtain ⟨d, hd⟩ : ∃ d, kcd ls[j] = d := ⟨_, rfl⟩
            have hok := kcd_ok ls[j]
            have hkt := kw_take hjl
            rw [hd] at hok hkt
            rw [hx] at hc hok
            clear hd
            obtain ⟨m, hm⟩ : ∃ m, x % 10 = m := ⟨_, rfl⟩
            have hm0 : 0 ≤ m := by omega
            have hm1 : m < 10 := by omega
            rw [hm] at hok
            have HM := Lib.hid hm
            have HOK := Lib.hid hok
            have HKT := Lib.hid hkt
            have hd1 := hok.2.1
            have hd2 := hok.2.2.1
            have hlen : (aheadBits k ++ kw (ls.take j)).length + d.size ≤ 99999 := by
              have := kw_length (ls.take j)
              rw [List.length_take] at this
              rw [List.length_append, aheadBits_length]
              omega
            have HLen := Lib.hid hlen
            clear hx hm hok hkt hlen
            go_wp2_with fail
            refine (pick_any x 10 wr (by decide) (by decide)).mono ?_
            rw [HM.out]
            rintro e w' ⟨rfl, rfl⟩
            go_wp2_with fail
            refine (kput_any (1 + m) wr).mono ?_
            rw [HOK.out.2.2.2.1]
            rintro e w2 ⟨rfl, hb⟩
            have HP2 := Lib.hid (hP.out.below hb hBs.out)
            have HB2 := Lib.hid (Nat.le_trans hBs.out hb.size)
            clear hb
            go_wp2_with fail
            refine (pcode_any HP2.out HB2.out d HOK.out.1 HLen.out).mono ?_
            rintro e w3 ⟨rfl, ⟨v', bs', hP3⟩, hB3⟩
            rw [List.append_assoc, ← HKT.out] at hP3
            have HP3 := Lib.hid hP3
            have HB3 := Lib.hid hB3
            clear hP3 hB3 hc
            go_wp2
            go_roundw
            case rel => exact ⟨j + 1, v', bs', by omega, by go_num, HP3, HB3⟩
            case measure => simp [intOf]; omega
          · obtain rfl : j = n := by omega
            clear hlt hj
            have hPf : PenAt w1.heap.size w1 wr w1.heap.size (aheadBits k ++ kw ls) v bs := by
              have := hP.out
              rwa [List.take_of_length_le (by rw [HLn.out]; exact Nat.le_refl _)] at this
            have HPF := Lib.hid hPf
            have hPF_bit := hPf.bit
            have hLk : (kw ls).length ≤ 600 := by have := kw_length ls; rw [HLn.out] at this; omega
            have hLall : (aheadBits k ++ kw ls).length ≤ 100000 := by rw [List.length_append, aheadBits_length]; omega
            have HLall := Lib.hid hLall
            clear hP hPf hLall
            obtain ⟨wq, hwq⟩ : ∃ wq, wq = wr := ⟨_, rfl⟩
            subst hwq
            go_wp2_with fail
            refine (pbytes_any HPF.out HLall.out).mono ?_
            rintro e w4 ⟨Ab, cb, rfl, hb, hBy⟩
            have HPB := Lib.hid (HPF.out.below hb hBs.out)
            have HBB := Lib.hid (Nat.le_trans hBs.out hb.size)
            obtain ⟨nb, hnb⟩ : ∃ nb, ((aheadBits k ++ kw ls).length + 7) / 8 = nb := ⟨_, rfl⟩
            rw [hnb] at hBy
            rw [hnb]
            have HNB := Lib.hid hnb
            have HBY := Lib.hid hBy
            have hak : (aheadBits k).length = k := aheadBits_length k
            have HAK := Lib.hid hak
            have HBIT := Lib.hid hPF_bit
            clear hb hBy hnb HPF hBs hak
            go_wp2
            go_loopw [12, 13] (fun a12 i wr => ∃ q t : Nat, q ≤ j ∧ t ≤ 100000 ∧ i = .int .i64 q ∧ a12 = .int .i64 (t : Int) ∧ Hid (t = (aheadBits k ++ kw (ls.take q)).length) ∧ Hid (Below w4.heap.size w4 wr)) (fun _ i _ => j - (intOf i).toNat)
            case atStart => exact ⟨0, k, Nat.zero_le _, by omega, rfl, rfl, Lib.hid (by rw [List.take_zero]; show k = (aheadBits k ++ []).length; rw [List.append_nil, HAK.out]), Lib.hid (Below.refl _ _)⟩
            case round =>
              obtain ⟨q, t, hq, ht5, rfl, rfl, ht, hbl⟩ := hrel
              by_cases hlt : q < j
              · have hql : q < ls.length := by rw [HLn.out]; exact hlt
                have HBW : Hid (Below w.heap.size w wr) := Lib.hid ((HB1.out.trans (HPB.out.bl.mono hB1w)).trans (hbl.out.mono (Nat.le_trans hB1w HBB.out)))
                obtain ⟨ad, rfl, hc⟩ := C_int_at (by rw [HLn.out]; exact Kd.C_below HV.out HBW.out) hql
                obtain ⟨x, hx⟩ : ∃ x, ls[q] = x := ⟨_, rfl⟩
                obtain ⟨d, hd⟩ : ∃ d, kcd ls[q] = d := ⟨_, rfl⟩
                have hok := kcd_ok ls[q]
                have hkt := kw_take hql
                have hks := kw_split hql
                rw [hd] at hok hkt hks
                rw [hx] at hc hok
                clear hd
                obtain ⟨m, hm⟩ : ∃ m, x % 10 = m := ⟨_, rfl⟩
                have hm0 : 0 ≤ m := by omega
                have hm1 : m < 10 := by omega
                rw [hm] at hok
                have hlen : (aheadBits k ++ kw (ls.take q)).length + d.size ≤ (aheadBits k ++ kw ls).length := by
                  rw [hks, List.length_append, List.length_append, List.length_append, List.length_append, bitsOf_length]
                  omega
                have hans : ansAt kcs kns bs nb (t : Int) = ⟨1 + m, d.size, 0⟩ := by
                  rw [ht.out]
                  refine ans_code kgood kapart hok.2.2.2.2.1 hok.2.2.2.2.2 (pre := aheadBits k ++ kw (ls.take q)) (post := kw (ls.drop (q + 1))) (fun j' => ?_) ?_
                  · rw [HBIT.out j', List.append_assoc, List.append_assoc, ← List.append_assoc (kw (ls.take q)), ← hks]
                  · have := HNB.out
                    omega
                have ht2 : t + d.size = (aheadBits k ++ kw (ls.take (q + 1))).length := by
                  rw [hkt, ← List.append_assoc, List.length_append, bitsOf_length, ← ht.out]
                have ht3 : t + d.size ≤ 100000 := by
                  have h1 := HLall.out
                  have h2 := ht.out
                  omega
                have HM := Lib.hid hm
                have HOK := Lib.hid hok
                have HANS := Lib.hid hans
                have HT2 := Lib.hid ht2
                have hd1 := hok.2.1
                have hd1' : ¬ (d.size : Int) < 1 := by omega
                have hd2 := hok.2.2.1
                have b1 : ((1 + m : Int) != 1 + m) = false := by simp
                have b2 : ((d.size : Int) != (d.size : Int)) = false := by simp
                clear hx hm hok hkt hks hlen hans ht2
                go_wp2_with fail
                refine (pick_any x 10 wr (by decide) (by decide)).mono ?_
                rw [HM.out]
                rintro e w' ⟨rfl, rfl⟩
                go_wp2_with fail
                refine (kput_any (1 + m) wr).mono ?_
                rw [HOK.out.2.2.2.1]
                rintro e w5 ⟨rfl, hb⟩
                have HB5 := Lib.hid (hbl.out.trans (hb.mono hbl.out.size))
                clear hb
                go_wp2_with fail
                refine (kget_any Ab nb cb bs (t : Int) w5 (HBY.out.below HB5.out) (by omega)).mono ?_
                rw [HANS.out]
                rintro e w6 ⟨rfl, hb⟩
                have HB6 := Lib.hid (HB5.out.trans (hb.mono HB5.out.size))
                clear hb hc
                simp only []
                go_wp2
                go_roundw
                case rel => exact ⟨q + 1, t + d.size, by omega, ht3, by go_num, by go_num, HT2, HB6⟩
                case measure => simp [intOf]; omega
              · obtain rfl : q = j := by omega
                clear hlt hq
                obtain ⟨T, hT⟩ : ∃ T, (aheadBits k ++ kw ls).length = T := ⟨_, rfl⟩
                obtain rfl : t = T := by rw [ht.out, ← hT, List.take_of_length_le (by rw [HLn.out]; exact Nat.le_refl _)]
                have hPe := HPB.out.below hbl.out HBB.out
                obtain ⟨c0, c1, c2⟩ := hPe.cells
                rw [hT] at c1
                have b3 : ((t : Int) == (t : Int)) = true := by simp
                have HBE := Lib.hid ((HB1.out.trans (HPB.out.bl.mono hB1w)).trans (hbl.out.mono (Nat.le_trans hB1w HBB.out)))
                clear hT hPe
                go_wp2_with fail
                refine (plen_any w1.heap.size (t : Int) wr c1 c2).mono ?_
                rintro e w' ⟨rfl, rfl⟩
                go_wp2
                go_ret
                exact ⟨rfl, HBE.out⟩
end Go.Proofs.Ythjfigaalknoiaa
