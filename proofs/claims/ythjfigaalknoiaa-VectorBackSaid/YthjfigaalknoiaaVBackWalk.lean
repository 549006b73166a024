/- praxinoscopelaw06.VectorBack returns true: the walk. -/
import Derived.Test.YthjfigaalknoiaaVBack
set_option linter.unusedVariables false
set_option linter.unusedSimpArgs false
namespace Go.Proofs.Ythjfigaalknoiaa
open Go.RowKit Go.Proofs.YthjfigaalknoiaaW.PrintWords Pt

theorem vback_ans {k m : Nat} {bs : List Int} (hk : k < 32) {s : ByteArray} (hs : vcs[k]? = some s) (hm : s.size ≤ 8 * m) (hb : ∀ j, j < s.size → (bitsOf s)[j]? = some (bitAt bs j)) :
    ansAt vcs vns bs m 0 = ⟨(k : Int) - 16, s.size, 0⟩ := by
  have hl : vcs.length = 32 := by decide
  have hl2 : vns.length = 32 := by decide
  obtain ⟨hk1, rfl⟩ := List.getElem?_eq_some_iff.1 hs
  have hpre : bitsOf vcs[k] <+: bitsFrom bs 0 m := by
    rw [List.prefix_iff_eq_take]
    apply List.ext_getElem?
    intro j
    rw [List.getElem?_take, bitsOf_length]
    by_cases hj : j < vcs[k].size
    · rw [hb j hj, if_pos hj, bitsFrom_get (by omega), Nat.zero_add]
    · rw [if_neg hj, List.getElem?_eq_none (by rw [bitsOf_length]; omega)]
  have hv : vns[k]'(by omega) = (k : Int) - 16 := by
    have := vns_at k hk
    rw [List.getElem?_eq_getElem (by omega)] at this
    exact Option.some.inj this
  unfold ansAt
  rw [if_neg (by decide), show (0 : Int).toNat = 0 from rfl]
  rw [spec_at (i := k) (by omega) (by omega) (fun j hj hjk => ?_) (List.isPrefixOf_iff_prefix.2 hpre)]
  · rw [hv]; rfl
  · cases hp : (bitsOf vcs[j]).isPrefixOf (bitsFrom bs 0 m) with
    | false => rfl
    | true =>
      have h1 := pairs_get (cs := vcs) (vs := vns) (i := j) hj (by omega)
      have h2 := pairs_get (cs := vcs) (vs := vns) (i := k) hk1 (by omega)
      have := apart_eq vapart (List.mem_of_getElem? h1) (List.mem_of_getElem? h2) (comparable (List.isPrefixOf_iff_prefix.1 hp) hpre)
      have e := (Prod.mk.inj this).2
      have hvj : vns[j]'(by omega) = (j : Int) - 16 := by
        have := vns_at j (by omega)
        rw [List.getElem?_eq_getElem (by omega)] at this
        exact Option.some.inj this
      omega

theorem vcodes_ok : ∀ k : Fin 32, isCode (vcs.getD k.1 ⟨#[]⟩) = true ∧ (vcs.getD k.1 ⟨#[]⟩).size ≤ 11 := by decide +kernel

theorem vbeg : ∀ p t : Fin 32, beg (vcs.getD p.1 ⟨#[]⟩) (vcs.getD t.1 ⟨#[]⟩) = decide (p.1 = t.1) := by decide +kernel
theorem int_dec (p t : Nat) : ((p : Int) - 16 == (t : Int) - 16) = decide (p = t) := by
  rw [Bool.eq_iff_iff, beq_iff_eq, decide_eq_true_iff]
  omega
theorem veq1 {p t : Nat} (hp : p < 32) (ht : t < 32) {s u : ByteArray} (hs : vcs.getD p ⟨#[]⟩ = s) (hu : vcs.getD t ⟨#[]⟩ = u) :
    (((s.extract 0 u.size).toList == u.toList) == ((p : Int) - 16 == (t : Int) - 16)) = true := by
  rw [beg_eq, int_dec, ← hs, ← hu, vbeg ⟨p, hp⟩ ⟨t, ht⟩]
  simp
theorem veq2 {p t : Nat} (hp : p < 32) (ht : t < 32) {s u : ByteArray} (hs : vcs.getD p ⟨#[]⟩ = s) (hu : vcs.getD t ⟨#[]⟩ = u) :
    ((s.toList == (u.extract 0 s.size).toList) == ((p : Int) - 16 == (t : Int) - 16)) = true := by
  have hc : (s.toList == (u.extract 0 s.size).toList) = ((u.extract 0 s.size).toList == s.toList) := by
    rw [Bool.eq_iff_iff, beq_iff_eq, beq_iff_eq]
    exact eq_comm
  rw [hc, beg_eq, int_dec, ← hs, ← hu, vbeg ⟨t, ht⟩ ⟨p, hp⟩]
  simp [eq_comm]

set_option maxRecDepth 100000 in
set_option maxHeartbeats 2000000 in
theorem vback_any (x y : Int) (A : Option Addr) (n c : Nat) (vs : List Int) (w : World) (hV : (Kd.int .i64).C w A n vs) :
    Calls Try.prog 15 #[.int .i64 x, .int .i64 y, .slice A n c] w fun e w' => e = .returned (.bool true) ∧ Below w.heap.size w w' := by
  have HV := Lib.hid hV
  have hm : n ≤ 9223372036854775807 := hV.2.1
  clear hV
  obtain ⟨p, hp⟩ : ∃ p : Nat, x % 32 = p := ⟨(x % 32).toNat, by omega⟩
  obtain ⟨t, ht⟩ : ∃ t : Nat, y % 32 = t := ⟨(y % 32).toNat, by omega⟩
  have hp2 : p < 32 := by omega
  have ht2 : t < 32 := by omega
  have HP := Lib.hid hp
  have HT := Lib.hid ht
  clear hp ht
  by_cases h60 : 60 < n
  · have h60' : (60 : Int) < (n : Int) := by omega
    go_enter Try.func15, Try.ntmps15
    go_wp2_with fail
    refine (known6_any w).mono ?_
    rintro e w1 ⟨rfl, hb⟩
    have HB1 := Lib.hid hb
    clear hb
    go_wp2_with fail
    refine (pick_any x 32 w1 (by decide) (by decide)).mono ?_
    rw [HP.out]
    rintro e w' ⟨rfl, rfl⟩
    go_wp2_with fail
    refine (pick_any y 32 w1 (by decide) (by decide)).mono ?_
    rw [HT.out]
    rintro e w' ⟨rfl, rfl⟩
    go_wp2
    go_ret
    exact ⟨rfl, HB1.out⟩
  · have h60' : ¬ (60 : Int) < (n : Int) := by omega
    obtain ⟨s, hs⟩ : ∃ s, vcs.getD p ⟨#[]⟩ = s := ⟨_, rfl⟩
    obtain ⟨u, hu⟩ : ∃ u, vcs.getD t ⟨#[]⟩ = u := ⟨_, rfl⟩
    have HPS : Hid (vput ((p : Int) - 16) = (s, 0)) := Lib.hid (by unfold vput; rw [if_neg (by omega), show ((p : Int) - 16 + 16).toNat = p by omega, hs])
    have HPU : Hid (vput ((t : Int) - 16) = (u, 0)) := Lib.hid (by unfold vput; rw [if_neg (by omega), show ((t : Int) - 16 + 16).toNat = t by omega, hu])
    have HS : Hid (isCode s = true ∧ s.size ≤ 11) := Lib.hid (hs ▸ vcodes_ok ⟨p, hp2⟩)
    have HU : Hid (isCode u = true ∧ u.size ≤ 11) := Lib.hid (hu ▸ vcodes_ok ⟨t, ht2⟩)
    have HSI : Hid (vcs[p]? = some s) := Lib.hid (hs ▸ vcs_at p hp2)
    have HSE := Lib.hid hs
    have HUE := Lib.hid hu
    have hs63 : s.size ≤ 11 := HS.out.2
    have hu63 : u.size ≤ 11 := HU.out.2
    clear hs hu
    by_cases hmin : u.size < s.size
    all_goals (
    go_enter Try.func15, Try.ntmps15
    go_wp2_with fail
    refine (known6_any w).mono ?_
    rintro e w1 ⟨rfl, hb⟩
    have HB1 := Lib.hid hb
    clear hb
    go_wp2_with fail
    refine (pick_any x 32 w1 (by decide) (by decide)).mono ?_
    rw [HP.out]
    rintro e w' ⟨rfl, rfl⟩
    go_wp2_with fail
    refine (pick_any y 32 w1 (by decide) (by decide)).mono ?_
    rw [HT.out]
    rintro e w' ⟨rfl, rfl⟩
    go_wp2_with fail
    refine (vput_any ((p : Int) - 16) w1).mono ?_
    rw [HPS.out]
    rintro e w' ⟨rfl, rfl⟩
    go_wp2_with fail
    refine (vput_any ((t : Int) - 16) w1).mono ?_
    rw [HPU.out]
    rintro e w' ⟨rfl, rfl⟩
    go_wp2_with fail
    refine (code67 s w1 HS.out.1 HS.out.2).mono ?_
    rintro e w' ⟨rfl, rfl⟩
    go_wp2_with fail
    refine (code67 u w1 HU.out.1 HU.out.2).mono ?_
    rintro e w' ⟨rfl, rfl⟩
    go_wp2_with fail
    refine (bytes68 s A n c vs w1 HS.out.1 (Kd.C_below HV.out HB1.out) (by omega)).mono ?_
    rintro e w2 ⟨g, bs, rfl, hb, hby, hbit⟩
    have HB2 := Lib.hid (below_step HB1.out hb)
    have HBy := Lib.hid hby
    have HA := Lib.hid (vback_ans (m := (s.size + n + 7) / 8) hp2 HSI.out (by omega) hbit)
    clear hb hby hbit
    go_wp2_with fail
    refine (gets6_yes (some ⟨g, 0, none⟩) _ _ bs _ _ _ w2 HBy.out (by rw [HA.out]) (by rw [HA.out]) (by rw [HA.out])).mono ?_
    rintro e w3 ⟨rfl, hb⟩
    have HB3 := Lib.hid (below_step HB2.out hb)
    clear hb
    go_wp2
    have q1 : (u.size : Int) ≤ (u.size : Int) := by omega
    have q2 : (s.size : Int) ≤ (s.size : Int) := by omega
    go_quiet (fail)
    go_wp2
    go_ret
    refine ⟨?_, pw_below_drewN HB3.out _⟩
    first | (show Ending.returned (.bool (((s.extract 0 u.size).toList == u.toList) == ((p : Int) - 16 == (t : Int) - 16))) = _; rw [veq1 hp2 ht2 HSE.out HUE.out]) | (show Ending.returned (.bool ((s.toList == (u.extract 0 s.size).toList) == ((p : Int) - 16 == (t : Int) - 16))) = _; rw [veq2 hp2 ht2 HSE.out HUE.out]))
end Go.Proofs.Ythjfigaalknoiaa
