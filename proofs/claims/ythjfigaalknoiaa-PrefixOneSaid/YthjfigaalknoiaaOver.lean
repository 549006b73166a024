/- Small callees of the laws: Long, CopyInts, SameInts, OverInts; and what a write to one's own copy leaves alone. -/
import Derived.Test.YthjfigaalknoiaaRefGet
set_option linter.unusedVariables false
set_option linter.unusedSimpArgs false
namespace Go.Proofs.Ythjfigaalknoiaa
open Go.RowKit Go.Proofs.YthjfigaalknoiaaW.PrintWords Pt

/-- Only blocks from E on and below B may have been written. -/
structure Touch (E B : Nat) (w w' : World) : Prop where
  below : Below E w w'
  above : ∀ b, B ≤ b → w'.heap[b]? = w.heap[b]?
theorem Touch.refl (E B : Nat) (w : World) : Touch E B w w := ⟨Below.refl _ _, fun _ _ => rfl⟩
theorem Touch.trans {E B : Nat} {a b c : World} (h : Touch E B a b) (k : Touch E B b c) : Touch E B a c := ⟨h.below.trans k.below, fun i hi => (k.above i hi).trans (h.above i hi)⟩
theorem Touch.mono {E B E' B' : Nat} {a b : World} (h : Touch E B a b) (h1 : E' ≤ E) (h2 : B ≤ B') : Touch E' B' a b := ⟨h.below.mono h1, fun i hi => h.above i (Nat.le_trans h2 hi)⟩
theorem Touch.setCell {E B : Nat} {a w : World} (h : Touch E B a w) {g j : Nat} (hE : E ≤ g) (hB : g < B) (u : Value) : Touch E B a (w.setCell ⟨g, j, none⟩ u) :=
  ⟨h.below.setCell hE u, fun b hb => (Below.heap_setCell _ _ _ _ (by show b ≠ g; omega)).trans (h.above b hb)⟩

theorem long_any (A : Option Addr) (n c : Nat) (cs : List ByteArray) (w : World) (hC : Kd.string.C w A n cs) (hs : ∀ s ∈ cs, s.size ≤ maxLen) :
    Calls Try.prog 18 #[.slice A n c] w fun e w' => (e = .returned (.bool true) ∨ e = .returned (.bool false)) ∧ w = w' := by
  obtain rfl : cs.length = n := hC.1
  have hm : cs.length ≤ 9223372036854775807 := hC.2.1
  have HC := Lib.hid hC
  have HS := Lib.hid hs
  clear hC hs
  go_enter Try.func18, Try.ntmps18
  go_wp2
  go_loop [3] (fun i => ∃ k : Nat, k ≤ cs.length ∧ k ≤ 61 ∧ i = .int .i64 k) (fun i => cs.length - (intOf i).toNat)
  case atStart => exact ⟨0, Nat.zero_le _, by omega, rfl⟩
  case round =>
    obtain ⟨k, hk, hk2, rfl⟩ := hrel
    by_cases hlt : k < cs.length
    · by_cases hlt2 : k < 61
      · obtain ⟨ad, rfl, hc⟩ := C_str_at HC.out hlt
        have hsz : cs[k].size ≤ 9223372036854775807 := HS.out _ (List.getElem_mem hlt)
        by_cases hl : 40 < cs[k].size
        · have hl2 : (40 : Int) < (cs[k].size : Int) := by omega
          go_wp2
          go_ret
          first | exact ⟨.inl rfl, rfl⟩ | exact ⟨.inr rfl, rfl⟩
        · have hl2 : ¬ (40 : Int) < (cs[k].size : Int) := by omega
          go_wp2
          go_round
          case rel => exact ⟨k + 1, by omega, by omega, by go_num⟩
          case measure => simp [intOf]; omega
      · have h3 : (60 : Int) < (cs.length : Int) := by omega
        have h4 : (k : Int) < (cs.length : Int) := by omega
        have h5 : ¬ (k : Int) < 61 := by omega
        by_cases h6 : (cs.length : Int) ≤ 300
        · go_wp2
          go_ret
          first | exact ⟨.inl rfl, rfl⟩ | exact ⟨.inr rfl, rfl⟩
        · go_wp2
          go_ret
          first | exact ⟨.inl rfl, rfl⟩ | exact ⟨.inr rfl, rfl⟩
    · have h4 : ¬ (k : Int) < (cs.length : Int) := by omega
      by_cases h3 : (60 : Int) < (cs.length : Int)
      · by_cases h6 : (cs.length : Int) ≤ 300
        · go_wp2
          go_ret
          first | exact ⟨.inl rfl, rfl⟩ | exact ⟨.inr rfl, rfl⟩
        · go_wp2
          go_ret
          first | exact ⟨.inl rfl, rfl⟩ | exact ⟨.inr rfl, rfl⟩
      · go_wp2
        go_ret
        first | exact ⟨.inl rfl, rfl⟩ | exact ⟨.inr rfl, rfl⟩

theorem copyints_any (A : Option Addr) (n c : Nat) (vs : List Int) (w : World) (hV : (Kd.int .i64).C w A n vs) (h8 : n * 8 ≤ 140737488351232) :
    Calls Try.prog 20 #[.slice A n c] w fun e w' => ∃ v, e = .returned v ∧ Copied 3 w w' v n (vs.map (Value.int .i64)) := by
  have HV := Lib.hid (row_int hV)
  have hm : n ≤ 9223372036854775807 := hV.2.1
  clear hV
  go_enter Try.func20, Try.ntmps20
  go_wp2_with (at_builtin; refine wpList_append_fresh rfl _ _ 23 3 _ 8 rfl Try.underlying23 info3 rfl rfl A n c rfl _ HV.out (fun u hu => by simp at hu; obtain ⟨s, _, rfl⟩ := hu; rfl) (by decide) (by omega) ?_; intro v1 w1 hcp; have HP1 := Lib.hid hcp; clear hcp)
  go_ret
  exact ⟨_, rfl, HP1.out⟩

theorem sames_any (A A' : Option Addr) (n c c' : Nat) (vs : List Int) (w : World) (hV : (Kd.int .i64).C w A n vs) (hV' : (Kd.int .i64).C w A' n vs) :
    Calls Try.prog 23 #[.slice A n c, .slice A' n c'] w fun e w' => e = .returned (.bool true) ∧ ∃ q, w' = w.drewN q := by
  obtain rfl : vs.length = n := hV.1
  have hm : vs.length ≤ 9223372036854775807 := hV.2.1
  have HV := Lib.hid hV
  have HV' := Lib.hid hV'
  clear hV hV'
  have b0 : ((vs.length : Int) != (vs.length : Int)) = false := by simp
  go_enter Try.func23, Try.ntmps23
  go_wp2
  go_loopw [5] (fun i wr => ∃ (k q : Nat), k ≤ vs.length ∧ i = .int .i64 k ∧ wr = w.drewN q) (fun i _ => vs.length - (intOf i).toNat)
  case atStart => exact ⟨0, 0, Nat.zero_le _, rfl, rfl⟩
  case round =>
    obtain ⟨k, q, hk, rfl, rfl⟩ := hrel
    by_cases hlt : k < vs.length
    · obtain ⟨ad, rfl, hc⟩ := C_int_at HV.out hlt
      obtain ⟨ad', rfl, hc'⟩ := C_int_at HV'.out hlt
      have hi : (k : Int) < (vs.length : Int) := by omega
      have b1 : (vs[k] != vs[k]) = false := by simp
      go_wp2
      go_quiet (fail)
      go_wp2
      go_roundw
      case rel => exact ⟨k + 1, _, by omega, by go_num, rfl⟩
      case measure => simp [intOf]; omega
    · go_wp2
      go_ret
      exact ⟨rfl, _, rfl⟩

theorem over_row {E0 E B g n cap : Nat} {ys : List Value} (w : World) (h : w.ownsRow E0 3 1 (.slice (some ⟨g, 0, none⟩) n cap) n ys) (hE : E ≤ g) (hB : g < B) :
    Calls Try.prog 24 #[.slice (some ⟨g, 0, none⟩) n cap] w fun e w' => e = .returned (.tuple #[]) ∧ Touch E B w w' := by
  have hn : n ≤ 9223372036854775807 := by
    rcases h.2 with ⟨e, _⟩ | ⟨g', cap', cur, e, _, _, h1, h2, _⟩
    · cases e
    · injection e with e1 e2 e3; unfold maxLen at h2; omega
  have HO := Lib.hid h
  clear h
  go_enter Try.func24, Try.ntmps24
  go_wp2
  go_loopw [2] (fun i wr => ∃ (k : Nat) (ys : List Value), k ≤ n ∧ i = .int .i64 k ∧ Hid (wr.ownsRow E0 3 1 (.slice (some ⟨g, 0, none⟩) n cap) n ys ∧ Touch E B w wr)) (fun i _ => n - (intOf i).toNat)
  case atStart => exact ⟨0, ys, Nat.zero_le _, rfl, Lib.hid ⟨HO.out, Touch.refl _ _ _⟩⟩
  case round =>
    obtain ⟨k, zs, hk, rfl, hh⟩ := hrel
    by_cases hlt : k < n
    · have f1 : wr.frozen? ⟨g, k, none⟩ = false := hh.out.1.frozenAt k
      obtain ⟨u, hu⟩ : ∃ u, wr.cell? ⟨g, k, none⟩ = some u := by
        have hl : zs.length = n := by have := hh.out.1.1; omega
        exact ⟨zs[k], by rw [hh.out.1.cellAt k (by omega), List.getElem?_eq_getElem (by omega)]⟩
      go_wp2
      go_roundw
      case rel => exact ⟨k + 1, _, by omega, by go_num, Lib.hid ⟨(hh.out.1.stored k _).1, hh.out.2.setCell hE hB _⟩⟩
      case measure => simp [intOf]; omega
    · go_wp2
      go_end0
      exact ⟨rfl, hh.out.2⟩
theorem over_zero (E B : Nat) (A : Option Addr) (c : Nat) (w : World) :
    Calls Try.prog 24 #[.slice A 0 c] w fun e w' => e = .returned (.tuple #[]) ∧ Touch E B w w' := by
  go_enter Try.func24, Try.ntmps24
  go_wp2
  go_loop [2] (fun i => i = .int .i64 0) (fun _ => 0)
  case atStart => rfl
  case round =>
    subst hrel
    go_wp2
    go_end0
    exact ⟨rfl, Touch.refl _ _ _⟩
end Go.Proofs.Ythjfigaalknoiaa
