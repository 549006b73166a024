/- praxinoscoperef03.Make: the reference's tree, or why there is none; for every row of texts and of numbers. -/
import Derived.Test.YthjfigaalknoiaaRefBits
import Derived.Test.YthjfigaalknoiaaFresh
set_option linter.unusedVariables false
set_option linter.unusedSimpArgs false
namespace Go.Proofs.Ythjfigaalknoiaa
open Go.RowKit Go.Proofs.YthjfigaalknoiaaW.PrintWords Pt

theorem info3 : (Try.prog.info? 3).map (fun i => (i.zero, i.size, i.bytes)) = some (some (.int .i64 0), 1, 8) := by kernel_rfl
theorem info9 : (Try.prog.info? 9).map (fun i => (i.zero, i.size, i.bytes)) = some (some (.string ⟨#[]⟩), 1, 16) := by kernel_rfl

def Free (cs : List ByteArray) : Prop := ∀ i j (hi : i < cs.length) (hj : j < cs.length), i ≠ j → beg cs[i] cs[j] = false

/-- The reference's tree lies at p. -/
structure RT (B : Nat) (w : World) (p : Nat) (cs : List ByteArray) (vs : List Int) : Prop where
  lies : ∃ a c a' c', w.heap[p]? = some (.cells #[.slice a cs.length c, .slice a' vs.length c'] 95 (0, 0)) ∧ Kd.string.C w a cs.length cs ∧ (Kd.int .i64).C w a' vs.length vs ∧ (∀ ad, a = some ad → B ≤ ad.block) ∧ (∀ ad, a' = some ad → B ≤ ad.block)
  far : B ≤ p
  size : ∀ s ∈ cs, s.size ≤ maxLen
  same : vs.length = cs.length
theorem RT.below {B : Nat} {w w' : World} {p : Nat} {cs : List ByteArray} {vs : List Int} (h : RT B w p cs vs) (hb : Below w.heap.size w w') : RT B w' p cs vs := by
  obtain ⟨⟨a, c, a', c', h1, h2, h3, h6, h7⟩, h8, h4, h5⟩ := h
  exact ⟨⟨a, c, a', c', (hb.block _ (Array.getElem?_eq_some_iff.1 h1).1).trans h1, Kd.C_below h2 hb, Kd.C_below h3 hb, h6, h7⟩, h8, h4, h5⟩

structure RMake (w : World) (cs : List ByteArray) (vs : List Int) (e : Ending) (w' : World) : Prop where
  below : Below w.heap.size w w'
  bad : Bad cs vs → e = .returned (.tuple #[.pointer none, .int .i64 2])
  form : ¬ Bad cs vs → ¬ Free cs → e = .returned (.tuple #[.pointer none, .int .i64 14])
  tree : ¬ Bad cs vs → Free cs → ∃ p, e = .returned (.tuple #[.pointer (some ⟨p, 0, none⟩), .int .i64 0]) ∧ RT w.heap.size w' p cs vs

theorem RMake.bad_ {w w' : World} {cs : List ByteArray} {vs : List Int} (h : Bad cs vs) (hb : Below w.heap.size w w') : RMake w cs vs (.returned (.tuple #[.pointer none, .int .i64 2])) w' :=
  ⟨hb, fun _ => rfl, fun h' => absurd h h', fun h' => absurd h h'⟩

theorem rmake_bad1 (A A' : Option Addr) (n c n' c' : Nat) (cs : List ByteArray) (vs : List Int) (w : World) (hn : cs.length = n) (hn' : vs.length = n') (h : n ≠ n') (hl : n ≤ 9223372036854775807) (hl' : n' ≤ 9223372036854775807) :
    Calls Try.prog 22 #[.slice A n c, .slice A' n' c'] w (RMake w cs vs) := by
  have HB : Hid (Bad cs vs) := Lib.hid (.inl (by omega))
  clear hn hn'
  have b0 : ((n : Int) != (n' : Int)) = true := by rw [bne_iff_ne]; omega
  go_enter Try.func22, Try.ntmps22
  go_wp2
  go_ret2
  exact .bad_ HB.out (Below.refl _ _)

theorem rmake_bad2 (A A' : Option Addr) (n c c' : Nat) (cs : List ByteArray) (vs : List Int) (w : World) (hn : cs.length = n) (hl : n ≤ 9223372036854775807) (h : n = 0 ∨ 300 < n) :
    Calls Try.prog 22 #[.slice A n c, .slice A' n c'] w (RMake w cs vs) := by
  have HB : Hid (Bad cs vs) := Lib.hid (by unfold Bad; omega)
  clear hn
  have b0 : ((n : Int) != (n : Int)) = false := by simp
  rcases h with h | h
  · subst h
    go_enter Try.func22, Try.ntmps22
    go_wp2
    go_ret2
    exact .bad_ HB.out (Below.refl _ _)
  · have b1 : ((n : Int) == 0) = false := by rw [beq_eq_false_iff_ne]; omega
    have b2 : (300 : Int) < (n : Int) := by omega
    go_enter Try.func22, Try.ntmps22
    go_wp2
    go_ret2
    exact .bad_ HB.out (Below.refl _ _)

theorem C_str_at {w : World} {A : Option Addr} {cs : List ByteArray} (h : Kd.string.C w A cs.length cs) {k : Nat} (hk : k < cs.length) : ∃ ad, A = some ad ∧ w.cell? (ad.add k) = some (.string cs[k]) := by
  obtain ⟨ad, e, hc⟩ := h.2.2 (by omega)
  obtain ⟨c, h1, h2, h3⟩ := hc k cs[k] (List.getElem?_eq_getElem hk)
  have h2' : c = [.string cs[k]] := h2
  have := h3 0 (.string cs[k]) (by rw [h2']; rfl)
  exact ⟨ad, e, by simpa [Kd.string, Kd.scalar] using this⟩
theorem C_int_at {w : World} {A : Option Addr} {vs : List Int} {q : IntKind} (h : (Kd.int q).C w A vs.length vs) {k : Nat} (hk : k < vs.length) : ∃ ad, A = some ad ∧ w.cell? (ad.add k) = some (.int q vs[k]) := by
  obtain ⟨ad, e, hc⟩ := h.2.2 (by omega)
  obtain ⟨c, h1, h2, h3⟩ := hc k vs[k] (List.getElem?_eq_getElem hk)
  have h2' : c = [.int q vs[k]] := h2
  have := h3 0 (.int q vs[k]) (by rw [h2']; rfl)
  exact ⟨ad, e, by simpa [Kd.int, Kd.scalar] using this⟩

set_option maxRecDepth 100000 in
set_option maxHeartbeats 2000000 in
theorem rmake_good (A A' : Option Addr) (c c' : Nat) (cs : List ByteArray) (vs : List Int) (w : World) (hC : Kd.string.C w A cs.length cs) (hV : (Kd.int .i64).C w A' cs.length vs) (hs : ∀ s ∈ cs, s.size ≤ maxLen) (h0 : 0 < cs.length) (h1 : cs.length ≤ 300) :
    Calls Try.prog 22 #[.slice A cs.length c, .slice A' cs.length c'] w (RMake w cs vs) := by
  have HL : Hid (vs.length = cs.length) := Lib.hid hV.1
  have HC := Lib.hid hC
  have HV := Lib.hid hV
  have HS := Lib.hid hs
  clear hC hs hV
  have b0 : ((cs.length : Int) != (cs.length : Int)) = false := by simp
  have b1 : ((cs.length : Int) == 0) = false := by rw [beq_eq_false_iff_ne]; omega
  have b2 : ¬ (300 : Int) < (cs.length : Int) := by omega
  go_enter Try.func22, Try.ntmps22
  go_wp2
  go_loop [6] (fun i => ∃ k : Nat, k ≤ cs.length ∧ i = .int .i64 k ∧ Hid (∀ j (hj : j < cs.length), j < k → isCode cs[j] = true)) (fun i => cs.length - (intOf i).toNat)
  case atStart => exact ⟨0, Nat.zero_le _, rfl, Lib.hid (fun j _ h => absurd h (by omega))⟩
  case round =>
    obtain ⟨k, hk, rfl, hh⟩ := hrel
    by_cases hlt : k < cs.length
    · obtain ⟨ad, rfl, hcell⟩ := C_str_at HC.out hlt
      have hsz : cs[k].size ≤ maxLen := HS.out _ (List.getElem_mem hlt)
      cases hb : isCode cs[k] with
      | true =>
        have H : Hid (∀ j (hj : j < cs.length), j < k + 1 → isCode cs[j] = true) := Lib.hid (fun j hj hlt' => by
          by_cases e : j = k
          · subst e; exact hb
          · exact hh.out j hj (by omega))
        go_wp2_with (go_at_call 75; refine (rcode_any _ _ hsz).mono ?_; rintro e w' ⟨rfl, rfl⟩; rw [hb])
        go_round
        case rel => exact ⟨k + 1, by omega, by go_num, H⟩
        case measure => simp [intOf]; omega
      | false =>
        have HB : Hid (Bad cs vs) := Lib.hid (.inr (.inr (.inr (by rw [List.all_eq_false]; exact ⟨_, List.getElem_mem hlt, by rw [hb]; decide⟩))))
        go_wp2_with (go_at_call 75; refine (rcode_any _ _ hsz).mono ?_; rintro e w' ⟨rfl, rfl⟩; rw [hb])
        go_ret2
        exact .bad_ HB.out (Below.refl _ _)
    · have HNB : Hid (¬ Bad cs vs) := Lib.hid (by
        have := HL.out
        have ha : cs.all isCode = true := by
          rw [List.all_eq_true]; intro x hx
          obtain ⟨j, hj, rfl⟩ := List.mem_iff_getElem.1 hx
          exact hh.out j hj (by omega)
        unfold Bad; rw [ha]
        rintro (hb | hb | hb | hb)
        · omega
        · omega
        · omega
        · cases hb)
      go_wp2
      clear hh hlt hk
      go_loopw [7] (fun i wr => ∃ (k q : Nat), k ≤ cs.length ∧ i = .int .i64 k ∧ Hid (∀ a b (ha : a < cs.length) (hb : b < cs.length), a < k → a ≠ b → beg cs[a] cs[b] = false) ∧ wr = w.drewN q) (fun i _ => cs.length - (intOf i).toNat)
      case atStart => exact ⟨0, 0, Nat.zero_le _, rfl, Lib.hid (fun a b _ _ h => absurd h (by omega)), rfl⟩
      case round =>
        obtain ⟨k2, q, hk, rfl, hh, rfl⟩ := hrel
        by_cases hlt : k2 < cs.length
        · go_wp2
          obtain ⟨wo, hwo⟩ : ∃ wo, w.drewN q = wo := ⟨_, rfl⟩
          rw [hwo]
          go_loopw [8] (fun i wr => ∃ (m q : Nat), m ≤ cs.length ∧ i = .int .i64 m ∧ Hid (∀ b (hb : b < cs.length), b < m → k2 ≠ b → beg cs[k2] cs[b] = false) ∧ wr = w.drewN q) (fun i _ => cs.length - (intOf i).toNat)
          case atStart => exact ⟨0, q, Nat.zero_le _, rfl, Lib.hid (fun b _ h => absurd h (by omega)), hwo.symm⟩
          case round =>
            obtain ⟨m, q2, hm, rfl, hm2, rfl⟩ := hrel
            by_cases hltm : m < cs.length
            · obtain ⟨ad, hA, hc1⟩ := C_str_at HC.out hlt
              obtain ⟨ad2, hA2, hc2⟩ := C_str_at HC.out hltm
              subst hA
              obtain rfl : ad = ad2 := Option.some.inj hA2
              clear hA2
              have hs1 : cs[k2].size ≤ maxLen := HS.out _ (List.getElem_mem hlt)
              have hs2 : cs[m].size ≤ maxLen := HS.out _ (List.getElem_mem hltm)
              have hi1 : (k2 : Int) < (cs.length : Int) := by omega
              have hi2 : (m : Int) < (cs.length : Int) := by omega
              by_cases hne : k2 = m
              · subst hne
                have b3 : ((k2 : Int) != (k2 : Int)) = false := by simp
                go_wp2
                go_quiet (fail)
                go_wp2
                go_roundw
                case rel => exact ⟨k2 + 1, _, by omega, by go_num, Lib.hid (fun b hb hlt' hne' => by
                  by_cases e : b = k2
                  · exact absurd e.symm hne'
                  · exact hm2.out b hb (by omega) hne'), rfl⟩
                case measure => simp [intOf]; omega
              · have b3 : ((k2 : Int) != (m : Int)) = true := by rw [bne_iff_ne]; omega
                have hcall := fun (W : World) => (begins_any cs[k2] cs[m] W hs1 hs2).mono (R' := fun e w' => e = .returned (.bool (beg cs[k2] cs[m])) ∧ w' = W) (fun e w' h => ⟨h.1, h.2.symm⟩)
                have HCall := Lib.hid hcall
                clear hcall
                cases hbg : beg cs[k2] cs[m] with
                | true =>
                  have HNF : Hid (¬ Free cs) := Lib.hid (fun hf => by have := hf k2 m hlt hltm hne; rw [hbg] at this; cases this)
                  go_wp2
                  go_quiet ((go_at_call 76; exact (HCall.out _).mono (fun e w' h => ⟨h.1, _, h.2⟩)))
                  go_wp2
                  go_ret2
                  exact ⟨pw_below_drewN (pw_below_drewN (Below.refl _ _) _) _, fun hh => absurd hh HNB.out, fun _ _ => rfl, fun _ hf => absurd hf HNF.out⟩
                | false =>
                  go_wp2
                  go_quiet ((go_at_call 76; exact (HCall.out _).mono (fun e w' h => ⟨h.1, _, h.2⟩)))
                  go_wp2
                  go_roundw
                  case rel => exact ⟨m + 1, _, by omega, by go_num, Lib.hid (fun b hb hlt' hne' => by
                    by_cases e : b = m
                    · subst e; exact hbg
                    · exact hm2.out b hb (by omega) hne'), rfl⟩
                  case measure => simp [intOf]; omega
            · go_wp2
              go_roundw
              case rel => exact ⟨k2 + 1, q2, by omega, by go_num, Lib.hid (fun a b ha hb hlt' hne' => by
                by_cases e : a = k2
                · subst e; exact hm2.out b hb (by omega) hne'
                · exact hh.out a b ha hb (by omega) hne'), rfl⟩
              case measure => simp [intOf]; omega
        · have HF : Hid (Free cs) := Lib.hid (fun a b ha hb hne' => hh.out a b ha hb (by omega) hne')
          clear hh
          have HV2 := Lib.hid (show Row w A' cs.length (vs.map (Value.int .i64)) from row_int HV.out)
          have HC2 := Lib.hid (row_str HC.out)
          obtain ⟨wq, hwq⟩ : ∃ wq, w.drewN q = wq := ⟨_, rfl⟩
          have HQ : Hid (Below w.heap.size w wq) := Lib.hid (by rw [← hwq]; exact pw_below_drewN (Below.refl _ _) _)
          rw [hwq]
          clear hwq
          have t1 : True := trivial
          have t2 : True := trivial
          go_wp2_with (first | (at_builtin; have _u := t1; refine wpList_append_fresh (W := wq) rfl _ _ 22 9 _ 16 rfl Try.underlying22 info9 rfl rfl A cs.length c rfl _ (HC2.out.below HQ.out) (fun u hu => by simp at hu; obtain ⟨s, _, rfl⟩ := hu; rfl) (by decide) (by omega) ?_; intro v1 w1 hcp; obtain ⟨A1, c1, rfl, hc1, hrow1, hfa1⟩ := hcp.row; have HF1 := Lib.hid hfa1; clear hfa1; have HP1 := Lib.hid hcp; have HR1 := Lib.hid hrow1; clear hcp hrow1 hc1 t1) | (at_builtin; have _u := t2; refine wpList_append_fresh (W := w1) rfl _ _ 23 3 _ 8 rfl Try.underlying23 info3 rfl rfl A' cs.length c' rfl _ (HV2.out.below (below_step HQ.out HP1.out.bl)) (fun u hu => by simp at hu; obtain ⟨s, _, rfl⟩ := hu; rfl) (by decide) (by omega) ?_; intro v2 w2 hcp; obtain ⟨A2, c2, rfl, hc2, hrow2, hfa2⟩ := hcp.row; have HF2 := Lib.hid hfa2; clear hfa2; have HP2 := Lib.hid hcp; have HR2 := Lib.hid hrow2; clear hcp hrow2 hc2 t2))
          go_ret2
          have hb2 : Below w.heap.size w w2 := below_step (below_step HQ.out HP1.out.bl) HP2.out.bl
          have hb3 := below_alloc (Below.refl w2.heap.size w2) (.cells #[.slice A1 cs.length c1, .slice A2 cs.length c2] 95)
          refine ⟨below_alloc hb2 _, fun hh => absurd hh HNB.out, fun _ hh => absurd HF.out hh, fun _ _ => ⟨w2.heap.size, rfl, ⟨A1, c1, A2, c2, ?_, ?_, ?_, fun ad e => Nat.le_trans HQ.out.size (HF1.out ad e), fun ad e => Nat.le_trans (below_step HQ.out HP1.out.bl).size (HF2.out ad e)⟩, hb2.size, HS.out, HL.out⟩⟩
          · rw [HL.out]; exact at_alloc _ _ rfl
          · exact str_row ((HR1.out.below HP2.out.bl).below hb3) (by omega)
          · rw [HL.out]; exact int_row (HR2.out.below hb3) (by omega)

theorem rmake_any (A A' : Option Addr) (n c n' c' : Nat) (cs : List ByteArray) (vs : List Int) (w : World) (hC : Kd.string.C w A n cs) (hV : (Kd.int .i64).C w A' n' vs) (hs : ∀ s ∈ cs, s.size ≤ maxLen) :
    Calls Try.prog 22 #[.slice A n c, .slice A' n' c'] w (RMake w cs vs) := by
  by_cases h1 : n = n'
  · subst h1
    by_cases h2 : n = 0 ∨ 300 < n
    · exact rmake_bad2 A A' n c c' cs vs w hC.1 hC.2.1 h2
    · obtain rfl : cs.length = n := hC.1
      exact rmake_good A A' c c' cs vs w hC hV hs (by omega) (by omega)
  · exact rmake_bad1 A A' n c n' c' cs vs w hC.1 hV.1 h1 hC.2.1 hV.2.1
end Go.Proofs.Ythjfigaalknoiaa
