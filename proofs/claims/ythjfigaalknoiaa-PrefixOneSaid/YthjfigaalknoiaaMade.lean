/- praxinoscopelaw03.made: of any texts those that may be codes and fit those taken ahead; their tree. -/
import Derived.Test.YthjfigaalknoiaaMatch
import Derived.Test.YthjfigaalknoiaaTwo
set_option linter.unusedVariables false
set_option linter.unusedSimpArgs false
namespace Go.Proofs.Ythjfigaalknoiaa
open Go.RowKit Go.Proofs.YthjfigaalknoiaaW.PrintWords Pt

def Apt (s t : ByteArray) : Prop := ¬ bitsOf s <+: bitsOf t ∧ ¬ bitsOf t <+: bitsOf s
theorem apt_of {t s : ByteArray} (ht : isCode t = true) (hs : isCode s = true) (hle : t.size ≤ s.size) (h : ((s.extract 0 t.size).toList == t.toList) = false) : Apt t s := by
  rw [beg_eq] at h
  have h1 : ¬ bitsOf t <+: bitsOf s := fun hp => by rw [(beg_code hs ht).2 hp] at h; cases h
  refine ⟨h1, fun hp => ?_⟩
  have hl := hp.length_le
  rw [bitsOf_length, bitsOf_length] at hl
  have he : bitsOf s = bitsOf t := List.IsPrefix.eq_of_length hp (by rw [bitsOf_length, bitsOf_length]; omega)
  exact h1 (by rw [he]; exact List.prefix_refl _)
theorem beq_flip {a b : List UInt8} (h : (a == b) = false) : (b == a) = false := by
  rw [beq_eq_false_iff_ne] at h ⊢
  exact fun e => h e.symm
theorem apt_symm {s t : ByteArray} (h : Apt s t) : Apt t s := ⟨h.2, h.1⟩

/-- The texts that were kept so far. -/
structure MK (w : World) (ks : List ByteArray) (v : Value) (W : World) : Prop where
  bl : Below w.heap.size w W
  own : W.ownsRow w.heap.size 9 1 v ks.length (ks.map Value.string)
  code : ∀ s ∈ ks, isCode s = true
  apart : ks.Pairwise Apt
  len : ks.length ≤ 40
theorem MK.below {w W W' : World} {ks : List ByteArray} {v : Value} (h : MK w ks v W) (hb : Below W.heap.size W W') : MK w ks v W' :=
  ⟨h.bl.trans (hb.mono h.bl.size), own_move h.own (fun k hk => hb.block _ (h.own.lt k hk).2), h.code, h.apart, h.len⟩
theorem MK.add {w W w1 : World} {ks : List ByteArray} {v v' : Value} (h : MK w ks v W) {s : ByteArray} (hs : isCode s = true) (ha : ∀ p (hp : p < ks.length), Apt ks[p] s) (hl : ks.length < 40)
    (hg : (W.alloc (.cells #[.string s] 9)).grownBy w1 v.ownBlock) (ho : w1.ownsRow w.heap.size 9 1 v' (ks.length + 1) (ks.map Value.string ++ [.string s])) : MK w (ks ++ [s]) v' w1 := by
  refine ⟨(h.bl.alloc h.bl.size _).grown hg (Nat.le_trans h.bl.size (by simp)) (fun k e => (h.own.lt k e).1), ?_, ?_, ?_, ?_⟩
  · rw [List.map_append, List.length_append]; exact ho
  · intro x hx
    rcases List.mem_append.1 hx with hx | hx
    · exact h.code x hx
    · simp at hx; subst hx; exact hs
  · rw [List.pairwise_append]
    refine ⟨h.apart, by simp, fun x hx y hy => ?_⟩
    simp at hy
    subst hy
    obtain ⟨p, hp, rfl⟩ := List.mem_iff_getElem.1 hx
    exact ha p hp
  · rw [List.length_append]; simp; omega
def kidx (n : Nat) : List Int := (List.range n).map fun (i : Nat) => (i : Int)
theorem kidx_length (n : Nat) : (kidx n).length = n := by simp [kidx]
theorem kidx_succ (n : Nat) : kidx (n + 1) = kidx n ++ [(n : Int)] := by simp [kidx, List.range_succ]
theorem kidx_at {n k : Nat} (h : k < n) : (kidx n)[k]? = some (k : Int) := by simp [kidx, h]
theorem kept_good {ks : List ByteArray} (hc : ∀ s ∈ ks, isCode s = true) (hl : ks.length ≤ 40) (hne : ks ≠ []) : ¬ Bad ks (kidx ks.length) := by
  unfold Bad
  rw [kidx_length]
  have h0 : ks.length ≠ 0 := fun h => hne (List.eq_nil_of_length_eq_zero h)
  have ha : ks.all isCode = true := List.all_eq_true.2 hc
  rw [ha]
  rintro (h | h | h | h)
  · exact h rfl
  · exact h0 h
  · omega
  · cases h
theorem kept_apart {ks : List ByteArray} (hp : ks.Pairwise Apt) : (pairs ks (kidx ks.length)).Pairwise Apart := by
  rw [List.pairwise_iff_getElem] at hp ⊢
  intro i j hi hj hij
  have hl : (pairs ks (kidx ks.length)).length = ks.length := by unfold pairs; simp [kidx_length]
  have e : ∀ q (hq : q < ks.length), (pairs ks (kidx ks.length))[q]'(by omega) = (bitsOf ks[q], (kidx ks.length)[q]'(by rw [kidx_length]; exact hq)) := fun q hq => by
    have := pairs_get (cs := ks) (vs := kidx ks.length) hq (by rw [kidx_length]; exact hq)
    rw [List.getElem?_eq_getElem (by omega)] at this
    exact Option.some.inj this
  rw [e i (by omega), e j (by omega)]
  exact hp i j (by omega) (by omega) hij

/-- A row of numbers that grows. -/
structure R1 (w0 W0 : World) (vs : List Int) (v : Value) (W : World) : Prop where
  bl : Below w0.heap.size w0 W
  own : W.ownsRow w0.heap.size 3 1 v vs.length (vs.map (Value.int .i64))

/-- What made hands back. -/
def MadePost (w : World) (e : Ending) (w' : World) : Prop :=
  Below w.heap.size w w' ∧ ∃ (ks : List ByteArray) (A : Option Addr) (c : Nat), (∀ s ∈ ks, isCode s = true) ∧ ks.Pairwise Apt ∧ ks.length ≤ 40 ∧ Kd.string.C w' A ks.length ks ∧
    ((ks = [] ∧ e = .returned (.tuple #[.pointer none, .slice A ks.length c])) ∨ (ks ≠ [] ∧ ∃ p, e = .returned (.tuple #[.pointer (some ⟨p, 0, none⟩), .slice A ks.length c]) ∧ Tr w' p ks (kidx ks.length)))

set_option maxRecDepth 100000 in
set_option maxHeartbeats 8000000 in
theorem made_any (A : Option Addr) (n c : Nat) (cs : List ByteArray) (w : World) (hC : Kd.string.C w A n cs) (hn : n ≤ 60) :
    Calls Try.prog 34 #[.slice A n c] w (MadePost w) := by
  obtain rfl : cs.length = n := hC.1
  have HC := Lib.hid hC
  clear hC
  go_enter Try.func34, Try.ntmps34
  go_wp2
  go_loopw [4, 5] (fun v i wr => ∃ (k m : Nat) (ks : List ByteArray) (A1 : Option Addr) (c1 : Nat), k ≤ cs.length ∧ m ≤ 40 ∧ i = .int .i64 k ∧ v = .slice A1 m c1 ∧ Hid (ks.length = m) ∧ Hid (MK w ks (.slice A1 m c1) wr)) (fun _ i _ => cs.length - (intOf i).toNat)
  case atStart => exact ⟨0, 0, [], none, 0, Nat.zero_le _, by omega, rfl, rfl, Lib.hid rfl, Lib.hid ⟨Below.refl _ _, World.ownsRow_nil _ _ _ _, by simp, List.Pairwise.nil, by simp⟩⟩
  case round =>
    obtain ⟨k, m, ks, A1, c1, hk, hm, rfl, rfl, hkm, hM⟩ := hrel
    by_cases hA : k < cs.length ∧ m < 40
    · obtain ⟨hlt, hm40⟩ := hA
      have HCr : Hid (Kd.string.C wr A cs.length cs) := Lib.hid (Kd.C_below HC.out hM.out.bl)
      obtain ⟨ad, rfl, hcell⟩ := C_str_at HCr.out hlt
      obtain ⟨s, hs⟩ : ∃ s, cs[k] = s := ⟨_, rfl⟩
      rw [hs] at hcell
      have HSEQ := Lib.hid hs
      clear hs
      by_cases hsz : 1 ≤ s.size ∧ s.size ≤ 24
      · obtain ⟨hsz1, hsz2⟩ := hsz
        have b24 : decide ((s.size : Int) ≤ 24) = true := by simp; omega
        go_wp2
        go_loop [6, 7] (fun f j => ∃ (b : Bool) (q : Nat), q ≤ s.size ∧ f = .bool b ∧ j = .int .i64 (q : Int) ∧ Hid (b = true → ∀ p (hp : p < s.size), p < q → (s[p].toNat : Int) = 48 ∨ (s[p].toNat : Int) = 49)) (fun _ j => s.size - (intOf j).toNat)
        case atStart => exact ⟨true, 0, Nat.zero_le _, rfl, rfl, Lib.hid (fun _ p _ hp => absurd hp (by omega))⟩
        case round =>
          obtain ⟨b, q, hq, rfl, rfl, hby⟩ := hrel
          cases b with
          | false =>
            go_wp2
            go_loop [6, 8] (fun f j => f = .bool false ∧ j = .int .i64 0) (fun _ _ => 0)
            case atStart => exact ⟨rfl, rfl⟩
            case round =>
              obtain ⟨rfl, rfl⟩ := hrel
              go_wp2
              go_roundw
              case rel => exact ⟨k + 1, m, ks, A1, c1, by omega, hm, by go_num, rfl, hkm, hM⟩
              case measure => simp [intOf]; omega
          | true =>
            by_cases hlq : q < s.size
            · have H48 : Hid ((s[q].toNat : Int) = 48 ∨ (s[q].toNat : Int) = 49 → ∀ p (hp : p < s.size), p < q + 1 → (s[p].toNat : Int) = 48 ∨ (s[p].toNat : Int) = 49) := Lib.hid (fun hh p hp hpq => by
                by_cases e : p = q
                · subst e; exact hh
                · exact hby.out rfl p hp (by omega))
              by_cases h48 : (s[q].toNat : Int) = 48
              · have HH : Hid (true = true → ∀ p (hp : p < s.size), p < q + 1 → (s[p].toNat : Int) = 48 ∨ (s[p].toNat : Int) = 49) := Lib.hid (fun _ => H48.out (.inl h48))
                have b0 : ((s[q].toNat : Int) == 48) = true := by simp [h48]
                clear h48
                go_wp2
                go_round
                case rel => exact ⟨true, q + 1, by omega, rfl, by go_num, HH⟩
                case measure => simp [intOf]; omega
              · have b0 : ((s[q].toNat : Int) == 48) = false := by simp [h48]
                clear h48
                by_cases h49 : (s[q].toNat : Int) = 49
                · have HH : Hid (true = true → ∀ p (hp : p < s.size), p < q + 1 → (s[p].toNat : Int) = 48 ∨ (s[p].toNat : Int) = 49) := Lib.hid (fun _ => H48.out (.inr h49))
                  have b1 : ((s[q].toNat : Int) == 49) = true := by simp [h49]
                  clear h49
                  go_wp2
                  go_round
                  case rel => exact ⟨true, q + 1, by omega, rfl, by go_num, HH⟩
                  case measure => simp [intOf]; omega
                · have b1 : ((s[q].toNat : Int) == 49) = false := by simp [h49]
                  clear h49
                  go_wp2
                  go_round
                  case rel => exact ⟨false, q + 1, by omega, rfl, by go_num, Lib.hid (fun h => by cases h)⟩
                  case measure => simp [intOf]; omega
            · obtain rfl : q = s.size := by omega
              have HSC : Hid (isCode s = true) := Lib.hid (by
                unfold isCode
                rw [isBits_of (fun j hj => hby.out rfl j hj hj)]
                simp
                omega)
              clear hby hlq
              obtain ⟨wo, hwo⟩ : ∃ wo, wr = wo := ⟨_, rfl⟩
              subst hwo
              go_wp2
              go_loopw [6, 8] (fun f j wr2 => ∃ (b : Bool) (j' dq : Nat), j' ≤ m ∧ f = .bool b ∧ j = .int .i64 (j' : Int) ∧ wr2 = wr.drewN dq ∧ Hid (b = true → ∀ p (hp : p < ks.length), p < j' → Apt ks[p] s)) (fun _ j _ => m - (intOf j).toNat)
              case atStart => exact ⟨true, 0, 0, Nat.zero_le _, rfl, rfl, rfl, Lib.hid (fun _ p _ hp => absurd hp (by omega))⟩
              case round =>
                obtain ⟨b, j, dq, hj, rfl, rfl, rfl, hap⟩ := hrel
                cases b with
                | false =>
                  go_wp2
                  go_roundw
                  case rel => exact ⟨k + 1, m, ks, A1, c1, by omega, hm, by go_num, rfl, hkm, Lib.hid (hM.out.below (pw_below_drewN (Below.refl _ _) _))⟩
                  case measure => simp [intOf]; omega
                | true =>
                  by_cases hjm : j < m
                  · have hjl : j < ks.length := by rw [hkm.out]; exact hjm
                    obtain ⟨t, ht⟩ : ∃ t, ks[j] = t := ⟨_, rfl⟩
                    have HTC : Hid (isCode t = true) := Lib.hid (by rw [← ht]; exact hM.out.code _ (List.getElem_mem hjl))
                    have HT : Hid (ks[j]? = some t) := Lib.hid (by rw [List.getElem?_eq_getElem hjl, ht])
                    have htsz := (isCode_size HTC.out).2
                    have HAP : Hid (Apt t s → ∀ p (hp : p < ks.length), p < j + 1 → Apt ks[p] s) := Lib.hid (fun hh p hp hpq => by
                      by_cases e : p = j
                      · subst e; rw [ht]; exact hh
                      · exact hap.out rfl p hp (by omega))
                    clear ht hap
                    obtain ⟨adk, rfl, hck⟩ : ∃ adk, A1 = some adk ∧ wr.cell? (adk.add j) = some (.string t) := by
                      have hown := hM.out.own
                      rw [hkm.out] at hown
                      obtain ⟨g, cg, he, _, _⟩ := hown.form (by omega)
                      injection he with e1 e2 e3
                      subst e1
                      exact ⟨_, rfl, hown.cells (g := g) rfl j (.string t) (by rw [List.getElem?_map, HT.out]; rfl)⟩
                    have hi1 : (j : Int) < (m : Int) := by omega
                    have hi2 : (k : Int) < (cs.length : Int) := by omega
                    by_cases hmin : t.size ≤ s.size
                    · have hmin2 : (t.size : Int) ≤ (s.size : Int) := by omega
                      go_wp2
                      go_quiet (fail)
                      go_wp2
                      have hq1 : (t.size : Int) ≤ (t.size : Int) := by omega
                      have hq0 : (0 : Int) ≤ (t.size : Int) := by omega
                      go_quiet (fail)
                      go_wp2
                      refine ⟨?_, by simp [intOf]; omega⟩
                      cases hB : (t.toList == (s.extract 0 t.size).toList) with
                      | true => exact ⟨false, j + 1, _, by omega, rfl, by go_num, rfl, Lib.hid (fun h => by cases h)⟩
                      | false => exact ⟨true, j + 1, _, by omega, rfl, by go_num, rfl, Lib.hid (fun _ => HAP.out (apt_of HTC.out HSC.out hmin (beq_flip hB)))⟩
                    · have hmin2 : ¬ (t.size : Int) ≤ (s.size : Int) := by omega
                      have hmin3 : s.size ≤ t.size := by omega
                      go_wp2
                      go_quiet (fail)
                      go_wp2
                      have hq1 : (s.size : Int) ≤ (s.size : Int) := by omega
                      have hq0 : (0 : Int) ≤ (s.size : Int) := by omega
                      go_quiet (fail)
                      go_wp2
                      refine ⟨?_, by simp [intOf]; omega⟩
                      cases hB : ((t.extract 0 s.size).toList == s.toList) with
                      | true => exact ⟨false, j + 1, _, by omega, rfl, by go_num, rfl, Lib.hid (fun h => by cases h)⟩
                      | false => exact ⟨true, j + 1, _, by omega, rfl, by go_num, rfl, Lib.hid (fun _ => HAP.out (apt_symm (apt_of HSC.out HTC.out hmin3 hB)))⟩
                  · obtain rfl : j = m := by omega
                    have hs1 : j + 1 ≤ 9223372036854775807 := by omega
                    have hap2 := hap.out rfl
                    have HAP2 : Hid (∀ p (hp : p < ks.length), Apt ks[p] s) := Lib.hid (fun p hp => hap2 p hp (by have := hkm.out; omega))
                    have HM2 : Hid (MK w ks (.slice A1 j c1) (wr.drewN dq)) := Lib.hid (hM.out.below (pw_below_drewN (Below.refl _ _) _))
                    obtain ⟨wq, hwq⟩ : ∃ wq, wr.drewN dq = wq := ⟨_, rfl⟩
                    have hcq : wq.cell? (ad.add k) = some (.string s) := by rw [← hwq]; exact hcell
                    rw [hwq] at HM2 ⊢
                    clear hwq hap hap2 hcell
                    have hown : wq.ownsRow w.heap.size 9 1 (.slice A1 j c1) j (ks.map Value.string) := by
                      have := HM2.out.own
                      rw [hkm.out] at this
                      exact this
                    have HOWN := Lib.hid hown
                    have hBq := HM2.out.bl.size
                    clear hown
                    go_wp2_with (at_builtin; refine wpList_append_one (W := wq) rfl _ _ 22 9 _ 16 rfl Try.underlying22 info9 rfl (.string s) rfl rfl HOWN.out rfl hBq hs1 (by omega) ?_; intro v1 w1 hg1 ho1; obtain ⟨A2, c2, rfl⟩ := own_slice ho1; have HM3 : Hid (MK w (ks ++ [s]) (.slice A2 (j + 1) c2) w1) := (by have h0 := hkm.out; subst h0; exact Lib.hid (HM2.out.add HSC.out HAP2.out (by omega) hg1 ho1)); clear hg1 ho1)
                    refine ⟨⟨k + 1, j + 1, ks ++ [s], A2, c2, by omega, by omega, by go_num, rfl, Lib.hid ?_, HM3⟩, by simp [intOf]; omega⟩
                    have h0 := hkm.out
                    simp [h0]
      · rcases (show s.size < 1 ∨ (24 < s.size ∧ decide ((s.size : Int) ≤ 24) = false) by
          by_cases h1 : s.size < 1
          · exact .inl h1
          · exact .inr ⟨by omega, by simp; omega⟩) with hsz1 | ⟨hsz1, b24⟩
        all_goals
          clear hsz
          go_wp2
          go_loop [6, 7] (fun f j => f = .bool false ∧ j = .int .i64 0) (fun _ _ => 0)
          case atStart => exact ⟨rfl, rfl⟩
          case round =>
            obtain ⟨rfl, rfl⟩ := hrel
            go_wp2
            go_loop [6, 8] (fun f j => f = .bool false ∧ j = .int .i64 0) (fun _ _ => 0)
            case atStart => exact ⟨rfl, rfl⟩
            case round =>
              obtain ⟨rfl, rfl⟩ := hrel
              go_wp2
              go_roundw
              case rel => exact ⟨k + 1, m, ks, A1, c1, by omega, hm, by go_num, rfl, hkm, hM⟩
              case measure => simp [intOf]; omega
    · obtain ⟨wo, rfl⟩ : ∃ wo : World, wo = wr := ⟨_, rfl⟩
      have HKP : Hid (Kd.string.C wo A1 m ks) := Lib.hid (by
        have hown := hM.out.own
        rw [hkm.out] at hown
        have hl : (ks.map Value.string).length = m := by rw [List.length_map, hkm.out]
        rcases hown.2 with ⟨he, hz⟩ | ⟨g, cap, cur, he, _⟩
        · injection he with e1 e2 e3
          subst e1
          exact str_row ⟨hl, fun hp => absurd hp (by omega)⟩ (by omega)
        · injection he with e1 e2 e3
          subst e1
          exact str_row ⟨hl, fun _ => ⟨_, rfl, fun q u hu => hown.cells (g := g) rfl q u hu⟩⟩ (by omega))
      have hex : (k < cs.length ∧ decide ((m : Int) < 40) = false) ∨ ¬ k < cs.length := by
        by_cases h1 : k < cs.length
        · exact .inl ⟨h1, by simp; omega⟩
        · exact .inr h1
      clear hA
      rcases hex with ⟨hlt, hm40⟩ | hlt
      all_goals
        go_wp2
        go_loopw [10, 11] (fun v i wr2 => ∃ q : Nat, q ≤ m ∧ i = .int .i64 (q : Int) ∧ Hid (R1 wo wo (kidx q) v wr2)) (fun _ i _ => m - (intOf i).toNat)
        case atStart => exact ⟨0, Nat.zero_le _, rfl, Lib.hid ⟨Below.refl _ _, World.ownsRow_nil _ _ _ _⟩⟩
        case round =>
          obtain ⟨q, hq, rfl, hR⟩ := hrel
          have hs1 : q + 1 ≤ 9223372036854775807 := by omega
          by_cases hqm : q < m
          · have hown := hR.out.own
            rw [kidx_length] at hown
            have HOWN := Lib.hid hown
            have hBq := hR.out.bl.size
            clear hown
            go_wp2_with (at_builtin; refine wpList_append_one (W := wr) rfl _ _ 23 3 _ 8 rfl Try.underlying23 info3 rfl (.int .i64 (q : Int)) rfl rfl HOWN.out rfl hBq hs1 (by omega) ?_; intro v1 w1 hg1 ho1; have HG := Lib.hid hg1; have HO := Lib.hid ho1; clear hg1 ho1)
            refine ⟨⟨q + 1, by omega, by go_num, Lib.hid ⟨(hR.out.bl.alloc hR.out.bl.size _).grown HG.out (Nat.le_trans hR.out.bl.size (by simp)) (fun g e => (hR.out.own.lt g e).1), ?_⟩⟩, by simp [intOf]; omega⟩
            have ho := HO.out
            rw [kidx_length, kidx_succ, List.map_append]
            exact ho
          · obtain rfl : q = m := by omega
            have hown := hR.out.own
            rw [kidx_length] at hown
            obtain ⟨A2, c2, rfl⟩ := own_slice hown
            have HV : Hid ((Kd.int .i64).C wr A2 q (kidx q)) := Lib.hid (by
              have hl : ((kidx q).map (Value.int .i64)).length = q := by rw [List.length_map, kidx_length]
              rcases hown.2 with ⟨he, hz⟩ | ⟨g, cap, cur, he, _⟩
              · injection he with e1 e2 e3
                subst e1
                exact int_row ⟨hl, fun hp => absurd hp (by omega)⟩ (by omega)
              · injection he with e1 e2 e3
                subst e1
                exact int_row ⟨hl, fun _ => ⟨_, rfl, fun j u hu => hown.cells (g := g) rfl j u hu⟩⟩ (by omega))
            clear hown
            have HKW : Hid (Kd.string.C wr A1 q ks) := Lib.hid (Kd.C_below HKP.out hR.out.bl)
            have HBW : Hid (Below w.heap.size w wr) := Lib.hid (hM.out.bl.trans (hR.out.bl.mono hM.out.bl.size))
            have HFA : Hid ((∀ s ∈ ks, isCode s = true) ∧ ks.Pairwise Apt ∧ ks.length ≤ 40) := Lib.hid ⟨hM.out.code, hM.out.apart, hM.out.len⟩
            clear hM hR HKP HC
            by_cases hq0 : q = 0
            · subst hq0
              obtain rfl : ks = [] := List.eq_nil_of_length_eq_zero hkm.out
              have h0 := hkm.out
              clear hkm
              go_wp2_with fail
              refine (make_bad2 A1 A2 0 c1 c2 [] [] wr rfl (by decide) (.inl rfl)).mono ?_
              rintro e w' h
              obtain ⟨rfl, rfl⟩ := h.bad (.inr (.inl rfl))
              clear h
              go_wp2
              go_ret2
              exact ⟨HBW.out, [], A1, c1, HFA.out.1, HFA.out.2.1, HFA.out.2.2, HKW.out, .inl ⟨rfl, rfl⟩⟩
            · have hne : Hid (ks ≠ []) := Lib.hid (fun h => by have := hkm.out; rw [h] at this; simp at this; omega)
              have h0 := hkm.out
              subst h0
              have HSH : Hid (∀ s ∈ ks, s.size ≤ maxLen) := Lib.hid (fun s hs => by
                have := (isCode_size (HFA.out.1 s hs)).2
                unfold maxLen; omega)
              go_wp2_with fail
              refine (make_tr A1 A2 ks.length c1 ks.length c2 ks (kidx ks.length) wr HKW.out HV.out HSH.out (kept_good HFA.out.1 HFA.out.2.2 hne.out) (kept_apart HFA.out.2.1)).mono ?_
              rintro e w' ⟨p, rfl, hb, ht⟩
              have HB2 := Lib.hid (HBW.out.trans (hb.mono HBW.out.size))
              have HT := Lib.hid ht
              have HK2 := Lib.hid (Kd.C_below HKW.out hb)
              clear hb ht
              go_wp2
              go_ret2
              exact ⟨HB2.out, ks, A1, c1, HFA.out.1, HFA.out.2.1, HFA.out.2.2, HK2.out, .inr ⟨hne.out, p, rfl, HT.out⟩⟩
end Go.Proofs.Ythjfigaalknoiaa
