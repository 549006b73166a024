/- praxinoscopelaw03.PrefixTells returns true: the tree and the reference's tree tell the same, and keep no row that came in. -/
import Derived.Test.YthjfigaalknoiaaMatch
import Derived.Test.YthjfigaalknoiaaLaws3
import Derived.Deep.Onto
set_option linter.unusedVariables false
set_option linter.unusedSimpArgs false
namespace Go.Proofs.Ythjfigaalknoiaa
open Go.RowKit Go.Proofs.YthjfigaalknoiaaW.PrintWords Pt

set_option maxRecDepth 100000 in
set_option maxHeartbeats 2000000 in
theorem tells_big (A A' D : Option Addr) (n c n' c' nn cc : Nat) (cs : List ByteArray) (i num : Int) (w : World) (hC : Kd.string.C w A n cs) (hs : ∀ s ∈ cs, s.size ≤ maxLen) (h : 400 < n' ∨ 100 < nn) :
    Calls Try.prog 3 #[.slice A n c, .slice A' n' c', .slice D nn cc, .int .i64 i, .int .i64 num] w fun e w' => e = .returned (.bool true) ∧ Below w.heap.size w w' := by
  have HC := Lib.hid hC
  have HS := Lib.hid hs
  clear hC hs
  by_cases h1 : (400 : Int) < (n' : Int)
  · clear h
    go_enter Try.func3, Try.ntmps3
    go_wp2_with fail
    refine (long_any _ _ _ _ _ HC.out HS.out).mono ?_
    rintro e w' ⟨rfl | rfl, rfl⟩ <;> (
    go_wp2_with fail
    refine (awake_any _).mono ?_
    rintro e w' ⟨rfl, hb⟩
    have HB := Lib.hid hb
    clear hb
    go_wp2
    go_ret
    exact ⟨rfl, HB.out⟩)
  · have h2 : (100 : Int) < (nn : Int) := by omega
    clear h
    go_enter Try.func3, Try.ntmps3
    go_wp2_with fail
    refine (long_any _ _ _ _ _ HC.out HS.out).mono ?_
    rintro e w' ⟨rfl | rfl, rfl⟩ <;> (
    go_wp2_with fail
    refine (awake_any _).mono ?_
    rintro e w' ⟨rfl, hb⟩
    have HB := Lib.hid hb
    clear hb
    go_wp2
    go_ret
    exact ⟨rfl, HB.out⟩)

/-- No tree: both say so in one word. -/
def Nay (cs : List ByteArray) (vs : List Int) (er : Int) : Prop := (Bad cs vs ∧ er = 2) ∨ (¬ Bad cs vs ∧ ¬ (pairs cs vs).Pairwise Apart ∧ er = 14)
theorem nay_make {cs : List ByteArray} {vs : List Int} {er : Int} (h : Nay cs vs er) (A A' : Option Addr) (n c n' c' : Nat) (w : World) (hC : Kd.string.C w A n cs) (hV : (Kd.int .i64).C w A' n' vs) (hs : ∀ s ∈ cs, s.size ≤ maxLen) :
    Calls Try.prog 21 #[.slice A n c, .slice A' n' c'] w fun e w' => e = .returned (.tuple #[.pointer none, .int .i64 er]) ∧ Below w.heap.size w w' := by
  rcases h with ⟨h, rfl⟩ | ⟨h, h2, rfl⟩
  · exact (make_bad A A' n c n' c' cs vs w hC hV hs h).mono (fun e w' ⟨h1, h2⟩ => ⟨h1, h2 ▸ Below.refl _ _⟩)
  · exact make_form A A' n c n' c' cs vs w hC hV hs h h2
theorem nay_rmake {cs : List ByteArray} {vs : List Int} {er : Int} (h : Nay cs vs er) (A A' : Option Addr) (n c n' c' : Nat) (w : World) (hC : Kd.string.C w A n cs) (hV : (Kd.int .i64).C w A' n' vs) (hs : ∀ s ∈ cs, s.size ≤ maxLen) :
    Calls Try.prog 22 #[.slice A n c, .slice A' n' c'] w fun e w' => e = .returned (.tuple #[.pointer none, .int .i64 er]) ∧ Below w.heap.size w w' := by
  refine (rmake_any A A' n c n' c' cs vs w hC hV hs).mono ?_
  intro e w' hp
  rcases h with ⟨h, rfl⟩ | ⟨h, h2, rfl⟩
  · exact ⟨hp.bad h, hp.below⟩
  · exact ⟨hp.form h (fun hf => h2 ((free_iff h).1 hf)), hp.below⟩

set_option maxRecDepth 100000 in
set_option maxHeartbeats 4000000 in
theorem tells_nay (A A' D : Option Addr) (n c n' c' nn cc : Nat) (cs : List ByteArray) (vs : List Int) (er : Int) (i num : Int) (w : World) (hC : Kd.string.C w A n cs) (hV : (Kd.int .i64).C w A' n' vs) (hs : ∀ s ∈ cs, s.size ≤ maxLen)
    (h16 : n * 16 ≤ 140737488351232) (h8 : n' * 8 ≤ 140737488351232) (h1 : n' ≤ 400) (h2 : nn ≤ 100) (hN : Nay cs vs er) :
    Calls Try.prog 3 #[.slice A n c, .slice A' n' c', .slice D nn cc, .int .i64 i, .int .i64 num] w fun e w' => e = .returned (.bool true) ∧ Below w.heap.size w w' := by
  have HC := Lib.hid hC
  have HV := Lib.hid hV
  have HR := Lib.hid (row_str hC)
  have HS := Lib.hid hs
  have HN := Lib.hid hN
  clear hC hs hV hN
  have q1 : ¬ (400 : Int) < (n' : Int) := by omega
  have q2 : ¬ (100 : Int) < (nn : Int) := by omega
  have b0 : (er != er) = false := by simp
  go_enter Try.func3, Try.ntmps3
  go_wp2_with fail
  refine (long_any _ _ _ _ _ HC.out HS.out).mono ?_
  rintro e w' ⟨rfl | rfl, rfl⟩
  · go_wp2_with fail
    refine (awake_any _).mono ?_
    rintro e w' ⟨rfl, hb⟩
    have HB := Lib.hid hb
    clear hb
    go_wp2
    go_ret
    exact ⟨rfl, HB.out⟩
  · have t1 : True := trivial
    go_wp2_with (first | (at_builtin; have _u := t1; refine wpList_append_fresh (W := w) rfl _ _ 22 9 _ 16 rfl Try.underlying22 info9 rfl rfl A n c rfl _ HR.out (fun u hu => by simp at hu; obtain ⟨s, _, rfl⟩ := hu; rfl) (by decide) (by omega) ?_; intro v1 w1 hcp; obtain ⟨A1, c1, rfl, hc1, hrow1, _⟩ := hcp.row; have HP1 := Lib.hid hcp; have HR1 := Lib.hid hrow1; clear hcp hrow1 hc1 t1) | fail)
    refine (copyints_any A' n' c' vs w1 (Kd.C_below HV.out HP1.out.bl) h8).mono ?_
    rintro e w2 ⟨v2, rfl, hcp⟩
    obtain ⟨A2, c2, rfl, hc2, hrow2, _⟩ := hcp.row
    have HP2 := Lib.hid hcp
    have HR2 := Lib.hid hrow2
    clear hcp hrow2 hc2
    have HB2 : Hid (Below w.heap.size w w2) := Lib.hid (below_step HP1.out.bl HP2.out.bl)
    have hn : n ≤ 9223372036854775807 := by omega
    have hn' : n' ≤ 9223372036854775807 := by omega
    go_wp2_with fail
    refine (nay_make HN.out A1 A2 n c1 n' c2 w2 (str_row (HR1.out.below HP2.out.bl) hn) (int_row HR2.out hn') HS.out).mono ?_
    rintro e w3 ⟨rfl, hb⟩
    have HB23 := Lib.hid hb
    have HB3 : Hid (Below w.heap.size w w3) := Lib.hid (below_step HB2.out hb)
    clear hb
    go_wp2_with fail
    refine (nay_rmake HN.out A A' n c n' c' w3 (Kd.C_below HC.out HB3.out) (Kd.C_below HV.out HB3.out) HS.out).mono ?_
    rintro e w4 ⟨rfl, hb⟩
    have HB34 := Lib.hid hb
    have HB4 : Hid (Below w.heap.size w w4) := Lib.hid (below_step HB3.out hb)
    clear hb
    go_wp2_with fail
    refine (sames_any A2 A' n' c2 c' vs w4 (int_row ((HR2.out.below HB23.out).below HB34.out) hn') (Kd.C_below HV.out HB4.out)).mono ?_
    rintro e w5 ⟨rfl, q, hq⟩
    have HB5 : Hid (Below w.heap.size w w5) := Lib.hid (by rw [hq]; exact pw_below_drewN HB4.out _)
    clear hq
    go_wp2_with fail
    refine (awake_any _).mono ?_
    rintro e w' ⟨rfl, hb⟩
    have HB := Lib.hid (below_step HB5.out hb)
    clear hb
    go_wp2
    go_ret
    exact ⟨rfl, HB.out⟩

theorem yea_rmake {cs : List ByteArray} {vs : List Int} (hg : ¬ Bad cs vs) (hp : (pairs cs vs).Pairwise Apart) (A A' : Option Addr) (n c n' c' : Nat) (w : World) (hC : Kd.string.C w A n cs) (hV : (Kd.int .i64).C w A' n' vs) (hs : ∀ s ∈ cs, s.size ≤ maxLen) :
    Calls Try.prog 22 #[.slice A n c, .slice A' n' c'] w fun e w' => ∃ p, e = .returned (.tuple #[.pointer (some ⟨p, 0, none⟩), .int .i64 0]) ∧ Below w.heap.size w w' ∧ RT w.heap.size w' p cs vs := by
  refine (rmake_any A A' n c n' c' cs vs w hC hV hs).mono ?_
  intro e w' h
  obtain ⟨p, h1, h2⟩ := h.tree hg ((free_iff hg).2 hp)
  exact ⟨p, h1, h.below, h2⟩

set_option maxRecDepth 100000 in
set_option maxHeartbeats 4000000 in
theorem tells_yea (A A' D : Option Addr) (n c n' c' nn cc : Nat) (cs : List ByteArray) (vs bs : List Int) (i num : Int) (w : World) (hC : Kd.string.C w A n cs) (hV : (Kd.int .i64).C w A' n' vs) (hB : Bytes w D nn bs) (hs : ∀ s ∈ cs, s.size ≤ maxLen)
    (h16 : n * 16 ≤ 140737488351232) (h8 : n' * 8 ≤ 140737488351232) (h1 : n' ≤ 400) (h2 : nn ≤ 100) (h63 : i < 9223372036854775808) (hg : ¬ Bad cs vs) (hp : (pairs cs vs).Pairwise Apart) :
    Calls Try.prog 3 #[.slice A n c, .slice A' n' c', .slice D nn cc, .int .i64 i, .int .i64 num] w fun e w' => e = .returned (.bool true) ∧ Below w.heap.size w w' := by
  have hn0 : 0 < n := by have := (pairs_ne hg).2.2.1; rw [hC.1] at this; exact this
  have hn0' : 0 < n' := by have := (pairs_ne hg).2.2; rw [hC.1, hV.1] at this; omega
  have hcl : cs.length = n := hC.1
  have HC := Lib.hid hC
  have HV := Lib.hid hV
  have HB := Lib.hid hB
  have HR := Lib.hid (row_str hC)
  have HS := Lib.hid hs
  have HG := Lib.hid hg
  have HP := Lib.hid hp
  clear hC hs hV hB hg hp
  have q1 : ¬ (400 : Int) < (n' : Int) := by omega
  have q2 : ¬ (100 : Int) < (nn : Int) := by omega
  have hn : n ≤ 9223372036854775807 := by omega
  have hn' : n' ≤ 9223372036854775807 := by omega
  go_enter Try.func3, Try.ntmps3
  go_wp2_with fail
  refine (long_any _ _ _ _ _ HC.out HS.out).mono ?_
  rintro e w' ⟨rfl | rfl, rfl⟩
  · go_wp2_with fail
    refine (awake_any _).mono ?_
    rintro e w' ⟨rfl, hb⟩
    have HB := Lib.hid hb
    clear hb
    go_wp2
    go_ret
    exact ⟨rfl, HB.out⟩
  · have t1 : True := trivial
    go_wp2_with (first | (at_builtin; have _u := t1; refine wpList_append_fresh (W := w) rfl _ _ 22 9 _ 16 rfl Try.underlying22 info9 rfl rfl A n c rfl _ HR.out (fun u hu => by simp at hu; obtain ⟨s, _, rfl⟩ := hu; rfl) (by decide) (by omega) ?_; intro v1 w1 hcp; obtain ⟨g1, c1, rfl, hE1, hlt1⟩ := hcp.own.form hn0; have HP1 := Lib.hid hcp; clear hcp t1) | fail)
    refine (copyints_any A' n' c' vs w1 (Kd.C_below HV.out HP1.out.bl) h8).mono ?_
    rintro e w2 ⟨v2, rfl, hcp⟩
    obtain ⟨g2, c2, rfl, hE2, hlt2⟩ := hcp.own.form hn0'
    have HP2 := Lib.hid hcp
    clear hcp
    have HB2 : Hid (Below w.heap.size w w2) := Lib.hid (below_step HP1.out.bl HP2.out.bl)
    have hE2' : w.heap.size ≤ g2 := Nat.le_trans HP1.out.bl.size hE2
    have hlt1' : g1 < w2.heap.size := Nat.lt_of_lt_of_le hlt1 HP2.out.bl.size
    have HO1 : Hid (w2.ownsRow w.heap.size 9 1 (.slice (some ⟨g1, 0, none⟩) n c1) n (cs.map Value.string)) := Lib.hid (own_move HP1.out.own (fun k hk => by simp [Value.ownBlock] at hk; subst hk; exact HP2.out.bl.block _ hlt1))
    have HR1 : Hid (Row w2 (some ⟨g1, 0, none⟩) n (cs.map Value.string)) := Lib.hid ⟨by have := HO1.out.1; omega, fun _ => ⟨_, rfl, fun j u hu => HO1.out.cells (g := g1) rfl j u hu⟩⟩
    have HR2 : Hid (Row w2 (some ⟨g2, 0, none⟩) n' (vs.map (Value.int .i64))) := Lib.hid ⟨by have := HP2.out.own.1; omega, fun _ => ⟨_, rfl, fun j u hu => HP2.out.own.cells (g := g2) rfl j u hu⟩⟩
    go_wp2_with fail
    refine (make_trB (some ⟨g1, 0, none⟩) (some ⟨g2, 0, none⟩) n c1 n' c2 cs vs w2 (str_row HR1.out hn) (int_row HR2.out hn') HS.out HG.out HP.out).mono ?_
    rintro e w3 ⟨p, rfl, hb, htr⟩
    have HT3 := Lib.hid htr
    have HB23 := Lib.hid hb
    have HB3 : Hid (Below w.heap.size w w3) := Lib.hid (below_step HB2.out hb)
    clear hb htr
    go_wp2_with fail
    refine (yea_rmake HG.out HP.out A A' n c n' c' w3 (Kd.C_below HC.out HB3.out) (Kd.C_below HV.out HB3.out) HS.out).mono ?_
    rintro e w4 ⟨pr, rfl, hb, hrt⟩
    have HT4 := Lib.hid (HT3.out.below hb)
    have HRT4 := Lib.hid hrt
    have HB34 := Lib.hid hb
    have HB24 : Hid (Below w2.heap.size w2 w4) := Lib.hid (below_step HB23.out hb)
    have HB4 : Hid (Below w.heap.size w w4) := Lib.hid (below_step HB3.out hb)
    clear hb hrt
    go_wp2_with fail
    refine (sames_any (some ⟨g2, 0, none⟩) A' n' c2 c' vs w4 (int_row (HR2.out.below HB24.out) hn') (Kd.C_below HV.out HB4.out)).mono ?_
    rintro e w5 ⟨rfl, q, hq⟩
    have h45 : Below w4.heap.size w4 w5 := by rw [hq]; exact pw_below_drewN (Below.refl _ _) _
    have HT5 := Lib.hid (HT4.out.below h45)
    have HRT5 := Lib.hid (HRT4.out.below h45)
    have HB25 : Hid (Below w2.heap.size w2 w5) := Lib.hid (below_step HB24.out h45)
    have HB5 : Hid (Below w.heap.size w w5) := Lib.hid (below_step HB4.out h45)
    clear hq h45
    have HO2 : Hid (w5.ownsRow w.heap.size 3 1 (.slice (some ⟨g2, 0, none⟩) n' c2) n' (vs.map (Value.int .i64))) := Lib.hid (own_move (World.ownsRow.mono HP2.out.own HP1.out.bl.size) (fun k hk => by simp [Value.ownBlock] at hk; subst hk; exact HB25.out.block _ hlt2))
    have HO15 : Hid (w5.ownsRow w.heap.size 9 1 (.slice (some ⟨g1, 0, none⟩) n c1) n (cs.map Value.string)) := Lib.hid (own_move HO1.out (fun k hk => by simp [Value.ownBlock] at hk; subst hk; exact HB25.out.block _ hlt1'))
    have hg12 : g1 ≠ g2 := by omega
    go_wp2_with fail
    refine (over_row (E := g2) (B := g2 + 1) w5 HO2.out (Nat.le_refl _) (by omega)).mono ?_
    rintro e w6 ⟨rfl, ht⟩
    have hto := ht.mono hE2' (show g2 + 1 ≤ w2.heap.size by omega)
    have HT6 := Lib.hid (HT5.out.touch hto (Nat.le_refl _))
    have HRT6 := Lib.hid (HRT5.out.touch hto HB23.out.size)
    have HB6 : Hid (Below w.heap.size w w6) := Lib.hid (HB5.out.trans hto.below)
    have HO16 : Hid (w6.ownsRow w.heap.size 9 1 (.slice (some ⟨g1, 0, none⟩) n c1) n (cs.map Value.string)) := Lib.hid (own_move HO15.out (fun k hk => by
      simp [Value.ownBlock] at hk; subst hk
      rcases Nat.lt_or_gt_of_ne hg12 with h | h
      · exact ht.below.block _ h
      · exact ht.above _ (by omega)))
    clear ht hto
    go_wp2
    go_loopw [17] (fun i wr => ∃ (k : Nat) (ys : List Value), k ≤ n ∧ i = .int .i64 k ∧ Hid (wr.ownsRow w.heap.size 9 1 (.slice (some ⟨g1, 0, none⟩) n c1) n ys ∧ Touch w.heap.size w2.heap.size w6 wr)) (fun i _ => n - (intOf i).toNat)
    case atStart => exact ⟨0, _, Nat.zero_le _, rfl, Lib.hid ⟨HO16.out, Touch.refl _ _ _⟩⟩
    case round =>
      obtain ⟨k, zs, hk, rfl, hh⟩ := hrel
      by_cases hlt : k < n
      · have f1 : wr.frozen? ⟨g1, k, none⟩ = false := hh.out.1.frozenAt k
        obtain ⟨u, hu⟩ : ∃ u, wr.cell? ⟨g1, k, none⟩ = some u := by
          have hl : zs.length = n := by have := hh.out.1.1; omega
          exact ⟨zs[k], by rw [hh.out.1.cellAt k (by omega), List.getElem?_eq_getElem (by omega)]⟩
        go_wp2
        go_roundw
        case rel => exact ⟨k + 1, _, by omega, by go_num, Lib.hid ⟨(hh.out.1.stored k _).1, hh.out.2.setCell hE1 hlt1' _⟩⟩
        case measure => simp [intOf]; omega
      · have HT7 := Lib.hid (HT6.out.touch hh.out.2 (Nat.le_refl _))
        have HRT7 := Lib.hid (HRT6.out.touch hh.out.2 HB23.out.size)
        have HB7 : Hid (Below w.heap.size w wr) := Lib.hid (HB6.out.trans hh.out.2.below)
        have HBy7 := Lib.hid (HB.out.below HB7.out)
        clear hh
        obtain ⟨an, han⟩ : ∃ an, ansAt cs vs bs nn i = an := ⟨_, rfl⟩
        have HAN := Lib.hid han
        obtain ⟨rl, hrl⟩ : ∃ rl, rlook cs vs num = rl := ⟨_, rfl⟩
        have HRL := Lib.hid hrl
        have HLK : Hid ((look (told cs vs) num).1 = rl.1 ∧ putErr (told cs vs) num = rl.2) := Lib.hid (hrl ▸ told_look cs vs num)
        clear han hrl
        go_wp2_with fail
        refine (tr_get D nn cc bs i wr HT7.out.tr HBy7.out h63).mono ?_
        rw [HAN.out]
        rintro e w8 ⟨rfl, hb⟩
        have HT8 := Lib.hid (HT7.out.below hb)
        have HRT8 := Lib.hid (HRT7.out.below hb)
        have HB8 : Hid (Below w.heap.size w w8) := Lib.hid (below_step HB7.out hb)
        have HBy8 := Lib.hid (HB.out.below HB8.out)
        clear hb
        simp only []
        go_wp2_with fail
        refine (rget_any D nn cc bs i w8 HRT8.out HG.out HBy8.out h63).mono ?_
        rw [HAN.out]
        rintro e w9 ⟨rfl, hb⟩
        have HT9 := Lib.hid (HT8.out.below hb)
        have HRT9 := Lib.hid (HRT8.out.below hb)
        have HB9 : Hid (Below w.heap.size w w9) := Lib.hid (below_step HB8.out hb)
        clear hb
        simp only []
        go_wp2_with fail
        refine (tr_put num w9 HT9.out.tr).mono ?_
        rw [HLK.out.1, HLK.out.2]
        rintro e w10 ⟨rfl, hb⟩
        have HT10 := Lib.hid (HT9.out.below hb)
        have HRT10 := Lib.hid (HRT9.out.below hb)
        have HB10 : Hid (Below w.heap.size w w10) := Lib.hid (below_step HB9.out hb)
        clear hb
        go_wp2_with fail
        refine (rput_any num w10 HRT10.out).mono ?_
        rw [HRL.out]
        rintro e w11 ⟨rfl, rfl⟩
        have b1 : (an.v == an.v) = true := by simp
        have b2 : (an.n == an.n) = true := by simp
        have b3 : (an.e == an.e) = true := by simp
        have b5 : (rl.2 == rl.2) = true := by simp
        go_wp2_with fail
        refine (tr_codes w10 HT10.out.tr).mono ?_
        rw [hcl]
        rintro e w11 ⟨rfl, rfl⟩
        have b6 : ((n : Int) == (n : Int)) = true := by simp
        go_wp2_with fail
        refine (awake_any _).mono ?_
        rintro e w' ⟨rfl, hb⟩
        have HBf := Lib.hid (below_step HB10.out hb)
        clear hb
        go_wp2
        go_ret
        exact ⟨rfl, HBf.out⟩

theorem tells_any (A A' D : Option Addr) (n c n' c' nn cc : Nat) (cs : List ByteArray) (vs bs : List Int) (i num : Int) (w : World) (hC : Kd.string.C w A n cs) (hV : (Kd.int .i64).C w A' n' vs) (hB : Bytes w D nn bs) (hs : ∀ s ∈ cs, s.size ≤ maxLen)
    (h16 : n * 16 ≤ 140737488351232) (h8 : n' * 8 ≤ 140737488351232) (h63 : i < 9223372036854775808) :
    Calls Try.prog 3 #[.slice A n c, .slice A' n' c', .slice D nn cc, .int .i64 i, .int .i64 num] w fun e w' => e = .returned (.bool true) ∧ Below w.heap.size w w' := by
  by_cases hb : 400 < n' ∨ 100 < nn
  · exact tells_big A A' D n c n' c' nn cc cs i num w hC hs hb
  · by_cases hg : Bad cs vs
    · exact tells_nay A A' D n c n' c' nn cc cs vs 2 i num w hC hV hs h16 h8 (by omega) (by omega) (.inl ⟨hg, rfl⟩)
    · by_cases hp : (pairs cs vs).Pairwise Apart
      · exact tells_yea A A' D n c n' c' nn cc cs vs bs i num w hC hV hB hs h16 h8 (by omega) (by omega) h63 hg hp
      · exact tells_nay A A' D n c n' c' nn cc cs vs 14 i num w hC hV hs h16 h8 (by omega) (by omega) (.inr ⟨hg, hp, rfl⟩)
end Go.Proofs.Ythjfigaalknoiaa
