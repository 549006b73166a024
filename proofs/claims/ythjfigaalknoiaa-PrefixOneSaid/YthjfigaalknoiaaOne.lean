/- PrefixOne returns true: the plain law and the walk. -/
import Derived.Test.YthjfigaalknoiaaPreBack
set_option linter.unusedVariables false
set_option linter.unusedSimpArgs false
namespace Go.Proofs.Ythjfigaalknoiaa
open Go.RowKit Go.Proofs.YthjfigaalknoiaaW.PrintWords Pt

theorem ks_mem {ks : List ByteArray} {q : Nat} (hq : q < ks.length) : (bitsOf ks[q], (q : Int)) ∈ pairs ks (kidx ks.length) :=
  List.mem_of_getElem? (by
    have h2 : q < (kidx ks.length).length := by rw [kidx_length]; exact hq
    have := pairs_get (cs := ks) (vs := kidx ks.length) hq h2
    have hk := kidx_at (n := ks.length) hq
    rw [List.getElem?_eq_getElem h2] at hk
    rw [Option.some.inj hk] at this
    exact this)
theorem ks_of_mem {ks : List ByteArray} {c : List Bool × Int} (h : c ∈ pairs ks (kidx ks.length)) : ∃ q, ∃ hq : q < ks.length, c = (bitsOf ks[q], (q : Int)) := by
  obtain ⟨q, hq, rfl⟩ := List.mem_iff_getElem.1 h
  have hl : (pairs ks (kidx ks.length)).length = ks.length := by unfold pairs; simp [kidx_length]
  have hq1 : q < ks.length := by omega
  have h2 : q < (kidx ks.length).length := by rw [kidx_length]; exact hq1
  refine ⟨q, hq1, ?_⟩
  have := pairs_get (cs := ks) (vs := kidx ks.length) hq1 h2
  have hk := kidx_at (n := ks.length) hq1
  rw [List.getElem?_eq_getElem h2] at hk
  rw [Option.some.inj hk, List.getElem?_eq_getElem hq] at this
  exact Option.some.inj this
/-- One alone of the codes is the bits' beginning. -/
theorem KS.one {ks : List ByteArray} (h : KS ks) {F : List Bool} {p q : Nat} (hp : p < ks.length) (hq : q < ks.length) (h1 : bitsOf ks[p] <+: F) (h2 : bitsOf ks[q] <+: F) : p = q := by
  have := apart_eq h.pairs (ks_mem hp) (ks_mem hq) (List.prefix_or_prefix_of_prefix h1 h2)
  injection this with _ h3
  omega
theorem ans_whole {ks : List ByteArray} (h : KS ks) {bs : List Int} {nn a q : Nat} (hq : q < ks.length) (h1 : bitsOf ks[q] <+: bitsFrom bs a nn) : ansAt ks (kidx ks.length) bs nn (a : Int) = ⟨(q : Int), ks[q].size, 0⟩ := by
  unfold ansAt
  rw [if_neg (by omega), Int.toNat_natCast, spec_code h.pairs (ks_mem hq) h1]
  simp only [ansOf, resV, resN, resE, bitsOf_length]
theorem ans_part {ks : List ByteArray} (h : KS ks) {bs : List Int} {nn a q : Nat} (hq : q < ks.length) (h1 : bitsFrom bs a nn <+: bitsOf ks[q]) (h2 : (bitsFrom bs a nn).length < ks[q].size) : ansAt ks (kidx ks.length) bs nn (a : Int) = ⟨0, 0, 5⟩ := by
  unfold ansAt
  rw [if_neg (by omega), Int.toNat_natCast, spec_more h.pairs (ks_mem hq) h1 (by rw [bitsOf_length]; exact h2)]
  rfl
theorem ans_none {ks : List ByteArray} (h : KS ks) {bs : List Int} {nn a : Nat} (h1 : ∀ q (hq : q < ks.length), ¬ bitsOf ks[q] <+: bitsFrom bs a nn) (h2 : ∀ q (hq : q < ks.length), ¬ (bitsFrom bs a nn <+: bitsOf ks[q] ∧ (bitsFrom bs a nn).length < ks[q].size)) :
    ansAt ks (kidx ks.length) bs nn (a : Int) = ⟨0, 0, 7⟩ := by
  have hs : spec (pairs ks (kidx ks.length)) (bitsFrom bs a nn) = .code := by
    unfold spec
    have hf : (pairs ks (kidx ks.length)).find? (fun c => c.1.isPrefixOf (bitsFrom bs a nn)) = none := by
      rw [List.find?_eq_none]
      intro c hc
      obtain ⟨q, hq, rfl⟩ := ks_of_mem hc
      have := h1 q hq
      simpa using this
    have ha : (pairs ks (kidx ks.length)).any (fun c => (bitsFrom bs a nn).isPrefixOf c.1) = false := by
      rw [List.any_eq_false]
      intro c hc
      obtain ⟨q, hq, rfl⟩ := ks_of_mem hc
      intro hp
      have hp : bitsFrom bs a nn <+: bitsOf ks[q] := List.isPrefixOf_iff_prefix.1 hp
      have hl := hp.length_le
      rw [bitsOf_length] at hl
      rcases Nat.lt_or_ge (bitsFrom bs a nn).length ks[q].size with hlt | hge
      · exact h2 q hq ⟨hp, hlt⟩
      · have he : bitsFrom bs a nn = bitsOf ks[q] := hp.eq_of_length (by rw [bitsOf_length]; omega)
        exact h1 q hq (by rw [he]; exact List.prefix_refl _)
    rw [hf, ha]
    rfl
  unfold ansAt
  rw [if_neg (by omega), Int.toNat_natCast, hs]
  rfl

/-- The first bits of a text and of what is read are the same. -/
def agree (s : ByteArray) (F : List Bool) (j : Nat) : Prop := ∀ p, p < j → (bitsOf s)[p]? = F[p]?
theorem agree_step {s : ByteArray} {F : List Bool} {j : Nat} (h : agree s F j) (hh : (bitsOf s)[j]? = F[j]?) : agree s F (j + 1) := fun p hp => by
  by_cases e : p = j
  · subst e; exact hh
  · exact h p (by omega)
theorem agree_whole {s : ByteArray} {F : List Bool} (hl : s.size ≤ F.length) : agree s F s.size ↔ bitsOf s <+: F := by
  have hb := bitsOf_length s
  constructor
  · intro h
    rw [List.prefix_iff_eq_take]
    apply List.ext_getElem?
    intro j
    rw [List.getElem?_take]
    by_cases hj : j < (bitsOf s).length
    · rw [if_pos hj]; exact h j (by omega)
    · rw [if_neg hj, List.getElem?_eq_none (by omega)]
  · rintro ⟨t, rfl⟩ p hp
    rw [List.getElem?_append_left (by omega)]
theorem agree_part {s : ByteArray} {F : List Bool} (hl : F.length ≤ s.size) : agree s F F.length ↔ F <+: bitsOf s := by
  have hb := bitsOf_length s
  constructor
  · intro h
    rw [List.prefix_iff_eq_take]
    apply List.ext_getElem?
    intro j
    rw [List.getElem?_take]
    by_cases hj : j < F.length
    · rw [if_pos hj]; exact (h j hj).symm
    · rw [if_neg hj, List.getElem?_eq_none (by omega)]
  · rintro ⟨t, ht⟩ p hp
    rw [← ht, List.getElem?_append_left hp]
theorem read_at (A : Option Addr) (n c : Nat) (bs : List Int) (a j : Nat) (w : World) (hB : Bytes w A n bs) (hi : a + j < 8 * n) :
    Calls Try.prog 36 #[.slice A n c, .int .i64 ((a : Int) + (j : Int)), .int .i64 1] w fun e w' => e = .returned (.tuple #[.int .i64 (bitInt bs (a + j)), .int .i64 0]) ∧ w = w' := by
  have := read_in A n c bs (a + j) w hB hi
  rw [Int.natCast_add] at this
  exact this

/-- The code that was found whole, of those ahead of k. -/
def Who (ks : List ByteArray) (F : List Bool) (k : Nat) (who : Int) : Prop := (who = -1 ∧ ∀ q (hq : q < ks.length), q < k → ¬ bitsOf ks[q] <+: F) ∨ (∃ q : Nat, who = (q : Int) ∧ q < k ∧ ∃ hq : q < ks.length, bitsOf ks[q] <+: F)
/-- Whether what is read is a true part of a code, of those ahead of k. -/
def PartIs (ks : List ByteArray) (F : List Bool) (k : Nat) (part : Bool) : Prop := part = true ↔ ∃ q, ∃ hq : q < ks.length, q < k ∧ F <+: bitsOf ks[q] ∧ F.length < ks[q].size
theorem Who.step {ks : List ByteArray} {F : List Bool} {k : Nat} {who : Int} (h : Who ks F k who) (hk : k < ks.length) (hn : ¬ bitsOf ks[k] <+: F) : Who ks F (k + 1) who := by
  rcases h with ⟨h1, h2⟩ | ⟨q, h1, h2, h3⟩
  · refine .inl ⟨h1, fun q hq hqk => ?_⟩
    by_cases e : q = k
    · subst e; exact hn
    · exact h2 q hq (by omega)
  · exact .inr ⟨q, h1, by omega, h3⟩
theorem Who.first {ks : List ByteArray} {F : List Bool} {k : Nat} {who : Int} (h : Who ks F k who) (hKS : KS ks) (hk : k < ks.length) (hy : bitsOf ks[k] <+: F) : who = -1 := by
  rcases h with ⟨h1, h2⟩ | ⟨q, h1, h2, h3, h4⟩
  · exact h1
  · have := hKS.one h3 hk h4 hy
    omega
theorem PartIs.step {ks : List ByteArray} {F : List Bool} {k : Nat} {part : Bool} (h : PartIs ks F k part) (hk : k < ks.length) (hn : ¬ (F <+: bitsOf ks[k] ∧ F.length < ks[k].size)) : PartIs ks F (k + 1) part := by
  unfold PartIs at h ⊢
  rw [h]
  constructor
  · rintro ⟨q, hq, h1, h2⟩
    exact ⟨q, hq, by omega, h2⟩
  · rintro ⟨q, hq, h1, h2⟩
    by_cases e : q = k
    · subst e; exact absurd h2 hn
    · exact ⟨q, hq, by omega, h2⟩
theorem PartIs.yes {ks : List ByteArray} {F : List Bool} {k : Nat} (hk : k < ks.length) (hy : F <+: bitsOf ks[k] ∧ F.length < ks[k].size) : PartIs ks F (k + 1) true :=
  ⟨fun _ => ⟨k, hk, by omega, hy⟩, fun _ => rfl⟩

set_option maxRecDepth 100000 in
set_option maxHeartbeats 4000000 in
theorem one_big (A A' : Option Addr) (n c n' c' : Nat) (i : Int) (cs : List ByteArray) (w : World) (hC : Kd.string.C w A n cs) (hs : ∀ s ∈ cs, s.size ≤ maxLen) (h : 60 < n ∨ 12 < n') :
    Calls Try.prog 6 #[.slice A n c, .slice A' n' c', .int .i64 i] w fun e w' => e = .returned (.bool true) ∧ Below w.heap.size w w' := by
  have HC := Lib.hid hC
  have HS := Lib.hid hs
  clear hC hs
  by_cases h1 : (60 : Int) < (n : Int)
  · clear h
    go_enter Try.func6, Try.ntmps6
    go_wp2_with fail
    refine (known_any w).mono ?_
    rintro e w1 ⟨rfl, hb⟩
    have HB := Lib.hid hb
    clear hb
    go_wp2_with fail
    refine (long_any _ _ _ _ _ (Kd.C_below HC.out HB.out) HS.out).mono ?_
    rintro e w' ⟨rfl | rfl, rfl⟩ <;> (
    go_wp2
    go_ret
    exact ⟨rfl, HB.out⟩)
  · have h2 : (12 : Int) < (n' : Int) := by omega
    clear h
    go_enter Try.func6, Try.ntmps6
    go_wp2_with fail
    refine (known_any w).mono ?_
    rintro e w1 ⟨rfl, hb⟩
    have HB := Lib.hid hb
    clear hb
    go_wp2_with fail
    refine (long_any _ _ _ _ _ (Kd.C_below HC.out HB.out) HS.out).mono ?_
    rintro e w' ⟨rfl | rfl, rfl⟩ <;> (
    go_wp2
    go_ret
    exact ⟨rfl, HB.out⟩)

set_option maxRecDepth 100000 in
set_option maxHeartbeats 4000000 in
theorem one_any (A A' : Option Addr) (n c n' c' : Nat) (i0 : Int) (cs : List ByteArray) (bs : List Int) (w : World) (hC : Kd.string.C w A n cs) (hs : ∀ s ∈ cs, s.size ≤ maxLen) (hB : Bytes w A' n' bs) :
    Calls Try.prog 6 #[.slice A n c, .slice A' n' c', .int .i64 i0] w fun e w' => e = .returned (.bool true) ∧ Below w.heap.size w w' := by
  by_cases hbig : 60 < n ∨ 12 < n'
  · exact one_big A A' n c n' c' i0 cs w hC hs hbig
  have HC := Lib.hid hC
  have HS := Lib.hid hs
  have HV := Lib.hid hB
  have hn60 : n ≤ 60 := by omega
  have hn12 : n' ≤ 12 := by omega
  have q1 : ¬ (60 : Int) < (n : Int) := by omega
  have q2 : ¬ (12 : Int) < (n' : Int) := by omega
  clear hC hs hB hbig
  go_enter Try.func6, Try.ntmps6
  go_wp2_with fail
  refine (known_any w).mono ?_
  rintro e w1 ⟨rfl, hb⟩
  have HB1 := Lib.hid hb
  clear hb
  go_wp2_with fail
  refine (long_any _ _ _ _ _ (Kd.C_below HC.out HB1.out) HS.out).mono ?_
  rintro e w' ⟨rfl | rfl, rfl⟩
  · go_wp2
    go_ret
    exact ⟨rfl, HB1.out⟩
  go_wp2_with fail
  refine (made_any A n c cs w1 (Kd.C_below HC.out HB1.out) hn60).mono ?_
  rintro e w2 ⟨hb, ks, A1, c1, hcode, hapart, h40, hK, hm⟩
  have HB2 := Lib.hid (HB1.out.trans (hb.mono HB1.out.size))
  clear hb
  rcases hm with ⟨rfl, rfl⟩ | ⟨hne, p, rfl, hT⟩
  · clear hcode hapart h40 hK
    simp only [List.length_nil]
    go_wp2
    go_ret
    exact ⟨rfl, HB2.out⟩
  have HKS : Hid (KS ks) := Lib.hid ⟨hcode, hapart, h40, hne⟩
  have HK := Lib.hid hK
  have HT := Lib.hid hT
  have hpos := HKS.out.pos
  have b0 : ((ks.length : Int) == 0) = false := by rw [beq_eq_false_iff_ne]; omega
  obtain ⟨ad1, rfl, _⟩ := C_str_at hK hpos
  obtain ⟨a, ha⟩ : ∃ a : Nat, i0 % (8 * (n' : Int) + 1) = (a : Int) := ⟨(i0 % (8 * (n' : Int) + 1)).toNat, by
    have := Int.emod_nonneg i0 (b := 8 * (n' : Int) + 1) (by omega)
    omega⟩
  have ha2 : a ≤ 8 * n' := by
    have := Int.emod_lt_of_pos i0 (b := 8 * (n' : Int) + 1) (by omega)
    omega
  have HA := Lib.hid ha
  clear hcode hapart hne hK hT ha
  go_wp2_with fail
  refine (pick_any i0 (8 * (n' : Int) + 1) w2 (by omega) (by omega)).mono ?_
  rw [HA.out]
  rintro e w' ⟨rfl, rfl⟩
  go_wp2_with fail
  refine (tr_get A' n' c' bs (a : Int) w2 HT.out (HV.out.below HB2.out) (by omega)).mono ?_
  rintro e w3 ⟨rfl, hb⟩
  obtain ⟨av, an, ae, hans⟩ : ∃ av an ae, ansAt ks (kidx ks.length) bs n' (a : Int) = ⟨av, an, ae⟩ := ⟨_, _, _, rfl⟩
  have HANS := Lib.hid hans
  rw [hans]
  have HB3 := Lib.hid (HB2.out.trans (hb.mono HB2.out.size))
  have HK3 := Lib.hid (Kd.C_below HK.out hb)
  have HBy3 := Lib.hid (HV.out.below HB3.out)
  clear hb hans HK HT
  simp only []
  obtain ⟨F, hF⟩ : ∃ F, bitsFrom bs a n' = F := ⟨_, rfl⟩
  have hFl : F.length = 8 * n' - a := by rw [← hF]; exact bitsFrom_length _ _ _
  have HF := Lib.hid hF
  clear hF
  go_wp2
  go_loop [14, 15, 16] (fun wh pt i => ∃ (k : Nat) (who : Int) (part : Bool), k ≤ ks.length ∧ i = .int .i64 (k : Int) ∧ wh = .int .i64 who ∧ pt = .bool part ∧ Hid (Who ks F k who) ∧ Hid (PartIs ks F k part)) (fun _ _ i => ks.length - (intOf i).toNat)
  case atStart => exact ⟨0, -1, false, Nat.zero_le _, rfl, rfl, rfl, Lib.hid (.inl ⟨rfl, fun q _ h => absurd h (by omega)⟩), Lib.hid ⟨fun h => (by cases h), fun ⟨q, _, h, _⟩ => absurd h (by omega)⟩⟩
  case round =>
    obtain ⟨k, who, part, hk, rfl, rfl, rfl, hwho, hpart⟩ := hrel
    by_cases hlt : k < ks.length
    · obtain ⟨ad1', e1, hck⟩ := C_str_at HK3.out hlt
      obtain rfl : ad1 = ad1' := Option.some.inj e1
      obtain ⟨s, hs⟩ : ∃ s, ks[k] = s := ⟨_, rfl⟩
      rw [hs] at hck
      have HSK := Lib.hid hs
      have HSC : Hid (isCode s = true) := Lib.hid (by rw [← hs]; exact HKS.out.code _ (List.getElem_mem hlt))
      have hsz := isCode_size HSC.out
      clear e1 hs
      go_wp2
      go_loop [17, 18] (fun sm j => ∃ (b : Bool) (j' : Nat), j' ≤ s.size ∧ j' ≤ F.length ∧ sm = .bool b ∧ j = .int .i64 (j' : Int) ∧ Hid (b = true ↔ agree s F j')) (fun _ j => s.size - (intOf j).toNat)
      case atStart => exact ⟨true, 0, Nat.zero_le _, Nat.zero_le _, rfl, rfl, Lib.hid ⟨fun _ p hp => absurd hp (by omega), fun _ => rfl⟩⟩
      case round =>
        obtain ⟨b, j, hj1, hj2, rfl, rfl, hag⟩ := hrel
        by_cases hjs : j < s.size
        · by_cases hjf : j < F.length
          · have hjl : (j : Int) < 8 * (n' : Int) - (a : Int) := by omega
            have hin : a + j < 8 * n' := by omega
            have hFj : F[j]? = some (bitAt bs (a + j)) := by rw [← HF.out]; exact bitsFrom_get hin
            have h01 := bitInt_01 bs (a + j)
            obtain ⟨y, hy⟩ : ∃ y, bitInt bs (a + j) = y := ⟨_, rfl⟩
            have hbA : bitAt bs (a + j) = decide (y = 1) := by unfold bitAt; rw [hy]
            rw [hy] at h01
            rw [hbA] at hFj
            have HFj := Lib.hid hFj
            have HY := Lib.hid hy
            clear hFj hbA hy
            cases b with
            | false =>
              have HN : Hid (false = true ↔ agree s F (j + 1)) := Lib.hid ⟨fun h => (by cases h), fun h => hag.out.2 (fun p hp => h p (by omega))⟩
              go_wp2_with fail
              refine (read_at A' n' c' bs a j w3 HBy3.out hin).mono ?_
              rw [HY.out]
              rintro e w' ⟨rfl, rfl⟩
              go_wp2
              go_round
              case rel => exact ⟨false, j + 1, by omega, by omega, rfl, by go_num, HN⟩
              case measure => simp [intOf]; omega
            | true =>
              rcases byte_bits HSC.out hjs with ⟨hb48, hbit⟩ | ⟨hb48, hbit⟩
              · rcases h01 with rfl | rfl
                · have HN : Hid (agree s F (j + 1)) := Lib.hid (agree_step (hag.out.1 rfl) (by rw [hbit, HFj.out]; rfl))
                  have hsub : (s[j].toNat : Int) - 48 = 0 := by omega
                  clear hbit
                  go_wp2_with fail
                  refine (read_at A' n' c' bs a j w3 HBy3.out hin).mono ?_
                  rw [HY.out]
                  rintro e w' ⟨rfl, rfl⟩
                  go_wp2
                  go_round
                  case rel => exact ⟨true, j + 1, by omega, by omega, rfl, by go_num, Lib.hid ⟨fun _ => HN.out, fun _ => rfl⟩⟩
                  case measure => simp [intOf]; omega
                · have HN : Hid (false = true ↔ agree s F (j + 1)) := Lib.hid ⟨fun h => (by cases h), fun h => (by have := h j (by omega); rw [hbit, HFj.out] at this; simp at this)⟩
                  have hsub : (s[j].toNat : Int) - 48 = 0 := by omega
                  clear hbit
                  go_wp2_with fail
                  refine (read_at A' n' c' bs a j w3 HBy3.out hin).mono ?_
                  rw [HY.out]
                  rintro e w' ⟨rfl, rfl⟩
                  go_wp2
                  go_round
                  case rel => exact ⟨false, j + 1, by omega, by omega, rfl, by go_num, HN⟩
                  case measure => simp [intOf]; omega
              · rcases h01 with rfl | rfl
                · have HN : Hid (false = true ↔ agree s F (j + 1)) := Lib.hid ⟨fun h => (by cases h), fun h => (by have := h j (by omega); rw [hbit, HFj.out] at this; simp at this)⟩
                  have hsub : (s[j].toNat : Int) - 48 = 1 := by omega
                  clear hbit
                  go_wp2_with fail
                  refine (read_at A' n' c' bs a j w3 HBy3.out hin).mono ?_
                  rw [HY.out]
                  rintro e w' ⟨rfl, rfl⟩
                  go_wp2
                  go_round
                  case rel => exact ⟨false, j + 1, by omega, by omega, rfl, by go_num, HN⟩
                  case measure => simp [intOf]; omega
                · have HN : Hid (agree s F (j + 1)) := Lib.hid (agree_step (hag.out.1 rfl) (by rw [hbit, HFj.out]; rfl))
                  have hsub : (s[j].toNat : Int) - 48 = 1 := by omega
                  clear hbit
                  go_wp2_with fail
                  refine (read_at A' n' c' bs a j w3 HBy3.out hin).mono ?_
                  rw [HY.out]
                  rintro e w' ⟨rfl, rfl⟩
                  go_wp2
                  go_round
                  case rel => exact ⟨true, j + 1, by omega, by omega, rfl, by go_num, Lib.hid ⟨fun _ => HN.out, fun _ => rfl⟩⟩
                  case measure => simp [intOf]; omega
          · obtain rfl : j = F.length := by omega
            have hlen1 : ¬ (s.size : Int) ≤ 8 * (n' : Int) - (a : Int) := by omega
            have hlen2 : 8 * (n' : Int) - (a : Int) < (s.size : Int) := by omega
            have HNW : Hid (¬ bitsOf ks[k] <+: F) := Lib.hid (fun h => by
              have := h.length_le
              rw [bitsOf_length, HSK.out] at this
              omega)
            have HAG : Hid (b = true ↔ F <+: bitsOf ks[k]) := Lib.hid (by rw [HSK.out, hag.out]; exact agree_part (by omega))
            have HWHO := Lib.hid (hwho.out.step hlt HNW.out)
            cases b with
            | true =>
              have HP := Lib.hid (PartIs.yes hlt ⟨HAG.out.1 rfl, by rw [HSK.out]; omega⟩)
              cases part <;> (
              go_wp2
              go_round
              case rel => exact ⟨k + 1, who, true, by omega, by go_num, rfl, rfl, HWHO, HP⟩
              case measure => simp [intOf]; omega)
            | false =>
              have HP := Lib.hid (hpart.out.step hlt (fun h => (by cases HAG.out.2 h.1)))
              cases part with
              | true =>
                go_wp2
                go_round
                case rel => exact ⟨k + 1, who, true, by omega, by go_num, rfl, rfl, HWHO, HP⟩
                case measure => simp [intOf]; omega
              | false =>
                go_wp2
                go_round
                case rel => exact ⟨k + 1, who, false, by omega, by go_num, rfl, rfl, HWHO, HP⟩
                case measure => simp [intOf]; omega
        · obtain rfl : j = s.size := by omega
          have hlen1 : (s.size : Int) ≤ 8 * (n' : Int) - (a : Int) := by omega
          have hlen2 : ¬ 8 * (n' : Int) - (a : Int) < (s.size : Int) := by omega
          have HAG : Hid (b = true ↔ bitsOf ks[k] <+: F) := Lib.hid (by rw [HSK.out, hag.out]; exact agree_whole (by omega))
          have HP := Lib.hid (hpart.out.step hlt (fun h => (by have := h.2; rw [HSK.out] at this; omega)))
          cases b with
          | true =>
            obtain rfl := hwho.out.first HKS.out hlt (HAG.out.1 rfl)
            have HWHO : Hid (Who ks F (k + 1) (k : Int)) := Lib.hid (.inr ⟨k, rfl, by omega, hlt, HAG.out.1 rfl⟩)
            cases part with
            | true =>
              go_wp2
              go_round
              case rel => exact ⟨k + 1, k, true, by omega, by go_num, rfl, rfl, HWHO, HP⟩
              case measure => simp [intOf]; omega
            | false =>
              go_wp2
              go_round
              case rel => exact ⟨k + 1, k, false, by omega, by go_num, rfl, rfl, HWHO, HP⟩
              case measure => simp [intOf]; omega
          | false =>
            have HWHO := Lib.hid (hwho.out.step hlt (fun h => (by cases HAG.out.2 h)))
            cases part with
            | true =>
              go_wp2
              go_round
              case rel => exact ⟨k + 1, who, true, by omega, by go_num, rfl, rfl, HWHO, HP⟩
              case measure => simp [intOf]; omega
            | false =>
              go_wp2
              go_round
              case rel => exact ⟨k + 1, who, false, by omega, by go_num, rfl, rfl, HWHO, HP⟩
              case measure => simp [intOf]; omega
    · obtain rfl : k = ks.length := by omega
      rcases hwho.out with ⟨rfl, hno⟩ | ⟨q, rfl, _, hq, hyes⟩
      · cases part with
        | true =>
          obtain ⟨q, hq, _, h1, h2⟩ := hpart.out.1 rfl
          have h3 := ans_part HKS.out (bs := bs) (nn := n') (a := a) hq (by rw [HF.out]; exact h1) (by rw [HF.out]; exact h2)
          rw [HANS.out] at h3
          injection h3 with e1 e2 e3
          subst e1 e2 e3
          clear hno h1 h2 hpart
          go_wp2
          go_ret
          exact ⟨rfl, HB3.out⟩
        | false =>
          have h3 := ans_none HKS.out (bs := bs) (nn := n') (a := a) (fun q hq => by rw [HF.out]; exact hno q hq hq) (fun q hq h => (by
            rw [HF.out] at h
            cases hpart.out.2 ⟨q, hq, hq, h⟩))
          rw [HANS.out] at h3
          injection h3 with e1 e2 e3
          subst e1 e2 e3
          clear hno hpart
          go_wp2
          go_ret
          exact ⟨rfl, HB3.out⟩
      · have h3 := ans_whole HKS.out (bs := bs) (nn := n') (a := a) hq (by rw [HF.out]; exact hyes)
        rw [HANS.out] at h3
        injection h3 with e1 e2 e3
        subst e1 e2 e3
        obtain ⟨ad1', e1, hck⟩ := C_str_at HK3.out hq
        obtain rfl : ad1 = ad1' := Option.some.inj e1
        have h0q : (0 : Int) ≤ (q : Int) := by omega
        have hql : (q : Int) < (ks.length : Int) := by omega
        have b1 : ((q : Int) == (q : Int)) = true := by simp
        have b2 : ((ks[q].size : Int) == (ks[q].size : Int)) = true := by simp
        clear hyes e1 hpart
        go_wp2
        go_ret
        exact ⟨rfl, HB3.out⟩
end Go.Proofs.Ythjfigaalknoiaa
