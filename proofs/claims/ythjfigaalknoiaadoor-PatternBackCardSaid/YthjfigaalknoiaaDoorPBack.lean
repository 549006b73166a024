/- PatternBack returns true: the walk. -/
import Derived.Test.YthjfigaalknoiaaDoorWrote
import Derived.Test.YthjfigaalknoiaaDoorPenBytes
import Derived.Test.YthjfigaalknoiaaDoorPenKept
import Derived.Test.YthjfigaalknoiaaDoorLaws7
import Derived.Test.YthjfigaalknoiaaDoorPick
set_option linter.unusedVariables false
set_option linter.unusedSimpArgs false
namespace Go.Proofs.YthjfigaalknoiaaDoor
open Go.RowKit Go.Proofs.YthjfigaalknoiaaDoorW.PrintWords Pt

/-- The code of the pattern that a number picks. -/
def pcd (x : Int) : ByteArray := pcs.getD (x % 63).toNat ⟨#[]⟩
/-- The bits of the patterns that numbers pick. -/
def pw (ls : List Int) : List Bool := ls.flatMap fun x => bitsOf (pcd x)
theorem pcs_ok : ∀ k : Fin 63, isCode (pcs.getD k.1 ⟨#[]⟩) = true ∧ 3 ≤ (pcs.getD k.1 ⟨#[]⟩).size ∧ (pcs.getD k.1 ⟨#[]⟩).size ≤ 9 ∧ rlook pcs pns (1 + (k.1 : Int)) = (pcs.getD k.1 ⟨#[]⟩, 0) := by decide +kernel
theorem pcs_unlike : ∀ a b : Fin 63, ((pcs.getD a.1 ⟨#[]⟩).toList == (pcs.getD b.1 ⟨#[]⟩).toList) = (a == b) := by decide +kernel
theorem pcd_ok (x : Int) : isCode (pcd x) = true ∧ 3 ≤ (pcd x).size ∧ (pcd x).size ≤ 9 ∧ rlook pcs pns (1 + x % 63) = (pcd x, 0) ∧ pcs[(x % 63).toNat]? = some (pcd x) ∧ pns[(x % 63).toNat]? = some (1 + x % 63) := by
  have h := pcs_ok ⟨(x % 63).toNat, by omega⟩
  have e : (((x % 63).toNat : Nat) : Int) = x % 63 := by omega
  simp only [e] at h
  refine ⟨h.1, h.2.1, h.2.2.1, h.2.2.2, pcs_at _ (by omega), ?_⟩
  rw [pns_at _ (by omega), e, Int.add_comm]
theorem pcd_unlike (x y : Int) : ((pcd x).toList == (pcd y).toList) = (x % 63 == y % 63) := by
  have h := pcs_unlike ⟨(x % 63).toNat, by omega⟩ ⟨(y % 63).toNat, by omega⟩
  unfold pcd
  rw [h, Bool.eq_iff_iff, beq_iff_eq, beq_iff_eq, Fin.mk.injEq]
  omega
theorem pw_take {ls : List Int} {j : Nat} (hj : j < ls.length) : pw (ls.take (j + 1)) = pw (ls.take j) ++ bitsOf (pcd ls[j]) := by
  unfold pw
  rw [List.take_succ_eq_append_getElem hj, List.flatMap_append]
  simp
theorem pw_length : ∀ ls : List Int, (pw ls).length ≤ 9 * ls.length
  | [] => by simp [pw]
  | x :: ls => by
    have ih := pw_length ls
    have h := (pcd_ok x).2.2.1
    unfold pw at ih ⊢
    rw [List.flatMap_cons, List.length_append, bitsOf_length, List.length_cons]
    omega
theorem pw_split {ls : List Int} {j : Nat} (hj : j < ls.length) : pw ls = pw (ls.take j) ++ bitsOf (pcd ls[j]) ++ pw (ls.drop (j + 1)) := by
  rw [← pw_take hj]
  unfold pw
  rw [← List.flatMap_append, List.take_append_drop]
/-- The texts so far. -/
def ptx (ls : List Int) : List Value := ls.map fun x => .string (pcd x)

set_option maxRecDepth 100000 in
set_option maxHeartbeats 4000000 in
theorem pback_any (A : Option Addr) (n c : Nat) (ls : List Int) (w : World) (hsp : Spaces w) (hV : (Kd.int .i64).C w A n ls) :
    Calls Tryd.prog 4 #[.slice A n c] w fun e w' => e = .returned (.bool true) ∧ Below w.heap.size w w' := by
  have HV := Lib.hid hV
  have HSP := Lib.hid hsp
  have hln : ls.length = n := hV.1
  have hlm : n ≤ 9223372036854775807 := by have := hV.2.1; omega
  clear hV hsp
  by_cases hn : 60 < n
  · have hn2 : (60 : Int) < (n : Int) := by omega
    clear hln
    go_enter Tryd.func4, Tryd.ntmps4
    go_wp2_with fail
    refine (known7_any w HSP.out).mono ?_
    rintro e w1 ⟨rfl, hb⟩
    have HB1 := Lib.hid hb
    clear hb
    go_wp2_with fail
    refine (newpen_any w1).mono ?_
    rintro e w2 ⟨rfl, hP⟩
    have HB2 := Lib.hid (below_step HB1.out hP.bl)
    clear hP
    go_wp2
    go_ret
    exact ⟨rfl, HB2.out⟩
  · have hn2 : ¬ (60 : Int) < (n : Int) := by omega
    have HLn := Lib.hid hln
    clear hln
    go_enter Tryd.func4, Tryd.ntmps4
    go_wp2_with fail
    refine (known7_any w HSP.out).mono ?_
    rintro e w1 ⟨rfl, hb⟩
    have HB1 := Lib.hid hb
    clear hb
    go_wp2_with fail
    refine (newpen_any w1).mono ?_
    rintro e w2 ⟨rfl, hP⟩
    have HP2 := Lib.hid hP
    have HBs := Lib.hid (Nat.le_trans (Nat.le_of_lt (Array.getElem?_eq_some_iff.1 hP.hp).1) (Nat.le_refl _))
    have hB1w : w.heap.size ≤ w1.heap.size := HB1.out.size
    clear hP
    go_wp2
    go_loopw [5, 6] (fun va i wr => ∃ (k : Nat) (Aa : Option Addr) (ca : Nat) (v : Value) (bs : List Int), k ≤ n ∧ i = .int .i64 k ∧ va = .slice Aa k ca ∧ Hid (wr.ownsRow w1.heap.size 9 1 (.slice Aa k ca) k (ptx (ls.take k))) ∧ Hid (PenAt w1.heap.size w1 wr w1.heap.size (pw (ls.take k)) v bs) ∧ Hid (w1.heap.size ≤ wr.heap.size)) (fun _ i _ => n - (intOf i).toNat)
    case atStart => exact ⟨0, none, 0, _, _, Nat.zero_le _, rfl, rfl, Lib.hid (World.ownsRow_nil _ _ _ _), HP2, HBs⟩
    case round =>
      clear HP2 HBs
      obtain ⟨k, Aa, ca, v, bs, hk, rfl, rfl, hO, hP, hBs⟩ := hrel
      by_cases hlt : k < n
      · have hjl : k < ls.length := by rw [HLn.out]; exact hlt
        have HBW : Hid (Below w.heap.size w wr) := Lib.hid (HB1.out.trans (hP.out.bl.mono hB1w))
        have HSW : Hid (Spaces wr) := Lib.hid (HSP.out.below HBW.out)
        obtain ⟨ad, rfl, hc⟩ := C_int_at (by rw [HLn.out]; exact Kd.C_below HV.out HBW.out) hjl
        obtain ⟨x, hx⟩ : ∃ x, ls[k] = x := ⟨_, rfl⟩
        obtain ⟨d, hd⟩ : ∃ d, pcd x = d := ⟨_, rfl⟩
        have hok := pcd_ok x
        have hkt := pw_take hjl
        have hpt : ptx (ls.take (k + 1)) = ptx (ls.take k) ++ [.string d] := by
          unfold ptx
          rw [List.take_succ_eq_append_getElem hjl, List.map_append, hx, ← hd]
          rfl
        have hun : ∀ j, j < k → ∃ y, ls[j]? = some y ∧ ((d.toList == (pcd y).toList) = (x % 63 == y % 63)) := fun j hj => by
          obtain ⟨y, hy⟩ : ∃ y, ls[j]? = some y := ⟨_, List.getElem?_eq_getElem (by omega)⟩
          exact ⟨y, hy, by rw [← hd]; exact pcd_unlike x y⟩
        have HUN := Lib.hid hun
        rw [hd] at hok
        rw [hx] at hc hkt
        rw [hd] at hkt
        clear hun
        obtain ⟨m, hm⟩ : ∃ m, x % 63 = m := ⟨_, rfl⟩
        have hm0 : 0 ≤ m := by omega
        have hm1 : m < 63 := by omega
        rw [hm] at hok
        have HM := Lib.hid hm
        have HOK := Lib.hid hok
        have HKT := Lib.hid hkt
        have HPT := Lib.hid hpt
        have hd1 := hok.2.1
        have hd2 := hok.2.2.1
        have hlen : (pw (ls.take k)).length + d.size ≤ 99999 := by
          have := pw_length (ls.take k)
          rw [List.length_take] at this
          omega
        have HLen := Lib.hid hlen
        have HX : Hid (ls[k]? = some x) := Lib.hid (by rw [List.getElem?_eq_getElem hjl, hx])
        clear hx hm hok hkt hlen hd hpt
        go_wp2_with fail
        refine (pick_any x 63 wr (by decide) (by decide)).mono ?_
        rw [HM.out]
        rintro e w' ⟨rfl, rfl⟩
        go_wp2_with fail
        refine (pput_any (1 + m) wr HSW.out).mono ?_
        rw [HOK.out.2.2.2.1]
        rintro e w2 ⟨rfl, hb⟩
        have HP2 := Lib.hid (hP.out.below hb hBs.out)
        have HB2 := Lib.hid (Nat.le_trans hBs.out hb.size)
        have HO2 : Hid (w2.ownsRow w1.heap.size 9 1 (.slice Aa k ca) k (ptx (ls.take k))) := Lib.hid (own_move hO.out (fun g hg => hb.block _ (hO.out.lt g hg).2))
        clear hb
        go_wp2_with fail
        refine (pcode_kept HP2.out HB2.out d HOK.out.1 HLen.out).mono ?_
        rintro e w3 ⟨rfl, ⟨v', bs', hP3⟩, hB3, hk3⟩
        rw [← HKT.out] at hP3
        have HP3 := Lib.hid hP3
        have HB3 := Lib.hid hB3
        have HO3 : Hid (w3.ownsRow w1.heap.size 9 1 (.slice Aa k ca) k (ptx (ls.take k))) := Lib.hid (row_kept HO2.out (fun cur fz e => by
          rw [HP2.out.hp] at e
          injection e with e
          injection e with _ h2 _
          exact absurd h2 (by decide)) hk3)
        have HBW3 : Hid (Below w.heap.size w w3) := Lib.hid (HB1.out.trans (hP3.bl.mono hB1w))
        have HC3 := Lib.hid (Kd.C_below HV.out HBW3.out)
        clear hP3 hB3 hk3 hc HP2 HB2 HO2 hP hO hBs HSW HBW HKT HLen
        have hlk : k + 1 ≤ 9223372036854775807 := by omega
        go_wp2
        go_loopw [9] (fun i wr => ∃ (j q : Nat), j ≤ k ∧ i = .int .i64 j ∧ wr = w3.drewN q) (fun i _ => k - (intOf i).toNat)
        case atStart => exact ⟨0, 0, Nat.zero_le _, rfl, rfl⟩
        case round =>
          obtain ⟨j, q, hj, rfl, rfl⟩ := hrel
          by_cases hjk : j < k
          · obtain ⟨y, hy, hun⟩ := HUN.out j hjk
            obtain ⟨adk, e1, hck⟩ := C_int_at (by rw [HLn.out]; exact HC3.out) hjl
            obtain rfl : ad = adk := Option.some.inj e1
            have hjl2 : j < ls.length := by omega
            obtain ⟨adj, e2, hcj⟩ := C_int_at (by rw [HLn.out]; exact HC3.out) hjl2
            obtain rfl : ad = adj := Option.some.inj e2
            have hx1 := HX.out
            rw [List.getElem?_eq_getElem hjl] at hx1
            rw [List.getElem?_eq_getElem hjl2] at hy
            rw [Option.some.inj hx1] at hck
            rw [Option.some.inj hy] at hcj
            obtain ⟨adt, rfl, hct⟩ : ∃ adt, Aa = some adt ∧ w3.cell? (adt.add j) = some (.string (pcd y)) := by
              have hown := HO3.out
              obtain ⟨g, cg, he, _, _⟩ := hown.form (by omega)
              injection he with e1 e2 e3
              subst e1
              refine ⟨_, rfl, hown.cells (g := g) rfl j (.string (pcd y)) ?_⟩
              unfold ptx
              rw [List.getElem?_map, List.getElem?_take_of_lt hjk, List.getElem?_eq_getElem hjl2, Option.some.inj hy]
              rfl
            clear e1 e2 hx1 hy
            obtain ⟨dy, hdy⟩ : ∃ dy, pcd y = dy := ⟨_, rfl⟩
            rw [hdy] at hct hun
            have hcall := fun (z : Int) (W : World) => (pick_any z 63 W (by decide) (by decide)).mono (R' := fun e w' => e = .returned (.int .i64 (z % 63)) ∧ w' = W) (fun e w' h => ⟨h.1, h.2.symm⟩)
            have HCall := Lib.hid hcall
            clear hcall hdy
            have hi1 : (j : Int) < (n : Int) := by omega
            by_cases he : x % 63 = y % 63
            · have b1 : (x % 63 == y % 63) = true := by rw [beq_iff_eq]; exact he
              rw [b1] at hun
              go_wp2
              go_quiet ((go_at_call 10; exact (HCall.out _ _).mono (fun e w' h => ⟨h.1, _, h.2⟩)))
              go_wp2
              go_roundw
              case rel => exact ⟨j + 1, _, by omega, by go_num, rfl⟩
              case measure => simp [intOf]; omega
            · have b1 : (x % 63 == y % 63) = false := by rw [beq_eq_false_iff_ne]; exact he
              rw [b1] at hun
              go_wp2
              go_quiet ((go_at_call 10; exact (HCall.out _ _).mono (fun e w' h => ⟨h.1, _, h.2⟩)))
              go_wp2
              go_roundw
              case rel => exact ⟨j + 1, _, by omega, by go_num, rfl⟩
              case measure => simp [intOf]; omega
          · obtain rfl : j = k := by omega
            have hlo : Below w3.heap.size w3 (w3.drewN q) := pw_below_drewN (Below.refl _ _) _
            have HP4 := Lib.hid (HP3.out.below hlo HB3.out)
            have HB4 := Lib.hid (Nat.le_trans HB3.out hlo.size)
            have HO4 : Hid ((w3.drewN q).ownsRow w1.heap.size 9 1 (.slice Aa j ca) j (ptx (ls.take j))) := Lib.hid (own_move HO3.out (fun g hg => hlo.block _ (HO3.out.lt g hg).2))
            clear hlo HP3 HB3 HO3 HBW3 HC3 HUN
            obtain ⟨wq, hwq⟩ : ∃ wq, w3.drewN q = wq := ⟨_, rfl⟩
            rw [hwq] at HP4 HB4 HO4 ⊢
            clear hwq
            have hBq := HB4.out
            go_wp2_with (at_builtin; refine wpList_append_one (W := wq) rfl _ _ 33 9 _ 16 rfl Tryd.underlying33 info9 rfl (.string d) rfl rfl HO4.out rfl hBq hlk (by omega) ?_; intro va1 w4 hg1 ho1; obtain ⟨A2, c2, rfl⟩ := own_slice ho1; have HP5 := Lib.hid (HP4.out.grown HO4.out hBq hg1); have HB5 : Hid (w1.heap.size ≤ w4.heap.size) := Lib.hid (Nat.le_trans hBq (Nat.le_trans (by simp) hg1.size)); have HO5 := Lib.hid ho1; clear hg1 ho1)
            rw [← HPT.out] at HO5
            refine ⟨⟨j + 1, A2, c2, _, _, by omega, by go_num, rfl, HO5, HP5, HB5⟩, by simp [intOf]; omega⟩
      · obtain rfl : k = n := by omega
        clear hlt hk
        have hPf : PenAt w1.heap.size w1 wr w1.heap.size (pw ls) v bs := by
          have := hP.out
          rwa [List.take_of_length_le (by rw [HLn.out]; exact Nat.le_refl _)] at this
        have hOf : wr.ownsRow w1.heap.size 9 1 (.slice Aa k ca) k (ptx ls) := by
          have := hO.out
          rwa [List.take_of_length_le (by rw [HLn.out]; exact Nat.le_refl _)] at this
        have HPF := Lib.hid hPf
        have HOF := Lib.hid hOf
        have hPF_bit := hPf.bit
        have hLall : (pw ls).length ≤ 100000 := by have := pw_length ls; rw [HLn.out] at this; omega
        have HLall := Lib.hid hLall
        clear hP hO hPf hOf hLall
        obtain ⟨wq, hwq⟩ : ∃ wq, wq = wr := ⟨_, rfl⟩
        subst hwq
        go_wp2_with fail
        refine (pbytes_any HPF.out HLall.out).mono ?_
        rintro e w4 ⟨Ab, cb, rfl, hb, hBy⟩
        have HPB := Lib.hid (HPF.out.below hb hBs.out)
        have HBB := Lib.hid (Nat.le_trans hBs.out hb.size)
        have HOB : Hid (w4.ownsRow w1.heap.size 9 1 (.slice Aa k ca) k (ptx ls)) := Lib.hid (own_move HOF.out (fun g hg => hb.block _ (HOF.out.lt g hg).2))
        obtain ⟨nb, hnb⟩ : ∃ nb, ((pw ls).length + 7) / 8 = nb := ⟨_, rfl⟩
        rw [hnb] at hBy
        rw [hnb]
        have HNB := Lib.hid hnb
        have HBY := Lib.hid hBy
        have HBIT := Lib.hid hPF_bit
        clear hb hBy hnb HPF HOF hBs
        go_wp2
        go_loopw [11, 12] (fun a11 i wr => ∃ q t : Nat, q ≤ k ∧ t ≤ 100000 ∧ i = .int .i64 q ∧ a11 = .int .i64 (t : Int) ∧ Hid (t = (pw (ls.take q)).length) ∧ Hid (Below w4.heap.size w4 wr)) (fun _ i _ => k - (intOf i).toNat)
        case atStart => exact ⟨0, 0, Nat.zero_le _, by omega, rfl, rfl, Lib.hid (by rw [List.take_zero]; rfl), Lib.hid (Below.refl _ _)⟩
        case round =>
          obtain ⟨q, t, hq, ht5, rfl, rfl, ht, hbl⟩ := hrel
          by_cases hlt : q < k
          · have hql : q < ls.length := by rw [HLn.out]; exact hlt
            have HBW : Hid (Below w.heap.size w wr) := Lib.hid ((HB1.out.trans (HPB.out.bl.mono hB1w)).trans (hbl.out.mono (Nat.le_trans hB1w HBB.out)))
            have HSW : Hid (Spaces wr) := Lib.hid (HSP.out.below HBW.out)
            obtain ⟨x, hx⟩ : ∃ x, ls[q] = x := ⟨_, rfl⟩
            obtain ⟨d, hd⟩ : ∃ d, pcd x = d := ⟨_, rfl⟩
            have hok := pcd_ok x
            have hkt := pw_take hql
            have hks := pw_split hql
            rw [hx] at hkt hks
            rw [hd] at hok hkt hks
            obtain ⟨m, hm⟩ : ∃ m, x % 63 = m := ⟨_, rfl⟩
            have hm0 : 0 ≤ m := by omega
            have hm1 : m < 63 := by omega
            rw [hm] at hok
            have hlen : (pw (ls.take q)).length + d.size ≤ (pw ls).length := by
              rw [hks, List.length_append, List.length_append, bitsOf_length]
              omega
            have hans : ansAt pcs pns bs nb (t : Int) = ⟨1 + m, d.size, 0⟩ := by
              rw [ht.out]
              refine ans_code pgood papart hok.2.2.2.2.1 hok.2.2.2.2.2 (pre := pw (ls.take q)) (post := pw (ls.drop (q + 1))) (fun j' => ?_) ?_
              · rw [HBIT.out j', ← hks]
              · have := HNB.out
                omega
            have ht2 : t + d.size = (pw (ls.take (q + 1))).length := by
              rw [hkt, List.length_append, bitsOf_length, ← ht.out]
            have ht3 : t + d.size ≤ 100000 := by
              have h1 := HLall.out
              have h2 := ht.out
              omega
            have HM := Lib.hid hm
            have HOK := Lib.hid hok
            have HANS := Lib.hid hans
            have HT2 := Lib.hid ht2
            have hd1 := hok.2.1
            have hd2 := hok.2.2.1
            have b1 : ((1 + m : Int) != 1 + m) = false := by simp
            have b2 : ((d.size : Int) != (d.size : Int)) = false := by simp
            have b3 : ¬ (d.size : Int) < 3 := by omega
            have b4 : ¬ (9 : Int) < (d.size : Int) := by omega
            have HX : Hid (ls[q]? = some x ∧ pcd x = d) := Lib.hid ⟨by rw [List.getElem?_eq_getElem hql, hx], hd⟩
            clear hx hd hm hok hkt hks hlen hans ht2
            go_wp2_with fail
            refine (pget_any Ab nb cb bs (t : Int) wr HSW.out (HBY.out.below hbl.out) (by omega)).mono ?_
            rw [HANS.out]
            rintro e w6 ⟨rfl, hb⟩
            have HB6 := Lib.hid (hbl.out.trans (hb.mono hbl.out.size))
            obtain ⟨ad, rfl, hc⟩ := C_int_at (by rw [HLn.out]; exact Kd.C_below HV.out (HBW.out.trans (hb.mono HBW.out.size))) hql
            rw [Option.some.inj ((List.getElem?_eq_getElem hql).symm.trans HX.out.1)] at hc
            obtain ⟨adt, rfl, hct⟩ : ∃ adt, Aa = some adt ∧ w6.cell? (adt.add q) = some (.string d) := by
              have hown := own_move (w1 := w6) HOB.out (fun g hg => HB6.out.block _ (HOB.out.lt g hg).2)
              obtain ⟨g, cg, he, _, _⟩ := hown.form (by omega)
              injection he with e1 e2 e3
              subst e1
              refine ⟨_, rfl, hown.cells (g := g) rfl q (.string d) ?_⟩
              unfold ptx
              rw [List.getElem?_map, HX.out.1, ← HX.out.2]
              rfl
            clear hb
            simp only []
            go_wp2_with fail
            refine (pick_any x 63 w6 (by decide) (by decide)).mono ?_
            rw [HM.out]
            rintro e w' ⟨rfl, rfl⟩
            go_wp2
            go_roundw
            case rel => exact ⟨q + 1, t + d.size, by omega, ht3, by go_num, by go_num, HT2, HB6⟩
            case measure => simp [intOf]; omega
          · obtain rfl : q = k := by omega
            clear hlt hq
            obtain ⟨T, hT⟩ : ∃ T, (pw ls).length = T := ⟨_, rfl⟩
            obtain rfl : t = T := by rw [ht.out, ← hT, List.take_of_length_le (by rw [HLn.out]; exact Nat.le_refl _)]
            have hPe := HPB.out.below hbl.out HBB.out
            obtain ⟨c0, c1, c2⟩ := hPe.cells
            rw [hT] at c1
            have b3 : ((t : Int) == (t : Int)) = true := by simp
            have HBE := Lib.hid ((HB1.out.trans (HPB.out.bl.mono hB1w)).trans (hbl.out.mono (Nat.le_trans hB1w HBB.out)))
            clear hT hPe
            go_wp2_with fail
            refine (plen_any w1.heap.size (t : Int) wr c1 c2).mono ?_
            rintro e w' ⟨rfl, rfl⟩
            go_wp2
            go_ret
            exact ⟨rfl, HBE.out⟩
end Go.Proofs.YthjfigaalknoiaaDoor
