/- (*praxinoscoperef03.Tree).Get and .Put, code by code. -/
import Derived.Test.YthjfigaalknoiaaRefMake
import Derived.Lib.SmallJoins
import Derived.OwnWalk
set_option linter.unusedVariables false
set_option linter.unusedSimpArgs false
namespace Go.Proofs.Ythjfigaalknoiaa
open Go.RowKit Go.Proofs.YthjfigaalknoiaaW.PrintWords Pt

/-- The first text that has a number. -/
def rlook (cs : List ByteArray) (vs : List Int) (num : Int) : ByteArray × Int :=
  match (vs.zip cs).find? (fun c => c.1 == num) with
  | some c => (c.2, 0)
  | none => (⟨#[]⟩, 18)
theorem rlook_at {cs : List ByteArray} {vs : List Int} {num : Int} {k : Nat} (h1 : k < cs.length) (h2 : k < vs.length) (hpre : ∀ j (hj : j < vs.length), j < k → vs[j] ≠ num) (h : vs[k] = num) : rlook cs vs num = (cs[k], 0) := by
  have : (vs.zip cs).find? (fun c => c.1 == num) = some (vs[k], cs[k]) := by
    rw [List.find?_eq_some_iff_getElem]
    refine ⟨by simpa using h, k, by simp; omega, by simp, fun j hj => ?_⟩
    have := hpre j (by omega) hj
    simpa using this
  unfold rlook
  rw [this]
theorem rlook_none {cs : List ByteArray} {vs : List Int} {num : Int} (hl : vs.length = cs.length) (hpre : ∀ j (hj : j < vs.length), vs[j] ≠ num) : rlook cs vs num = (⟨#[]⟩, 18) := by
  have : (vs.zip cs).find? (fun c => c.1 == num) = none := by
    rw [List.find?_eq_none]
    intro c hc
    obtain ⟨j, hj, rfl⟩ := List.mem_iff_getElem.1 hc
    have := hpre j (by simp at hj; omega)
    simpa using this
  unfold rlook
  rw [this]

set_option maxHeartbeats 400000 in
theorem rput_any {B p : Nat} {cs : List ByteArray} {vs : List Int} (num : Int) (w : World) (hT : RT B w p cs vs) :
    Calls Try.prog 28 #[.pointer (some ⟨p, 0, none⟩), .int .i64 num] w fun e w' => e = .returned (.tuple #[.string (rlook cs vs num).1, .int .i64 (rlook cs vs num).2]) ∧ w = w' := by
  obtain ⟨⟨a, c, a', c', h1, h2, h3, _, _⟩, _, h4, h5⟩ := hT
  have f0 : w.cell? ⟨p, 0, none⟩ = some (.slice a cs.length c) := by rw [cell_of_heap h1]; rfl
  have f1 : w.cell? ⟨p, 1, none⟩ = some (.slice a' vs.length c') := by rw [cell_of_heap h1]; rfl
  have H2 := Lib.hid h2
  have H3 := Lib.hid h3
  have H5 := Lib.hid h5
  have hm : cs.length ≤ 9223372036854775807 := h2.2.1
  clear h1 h2 h3 h4 h5
  go_enter Try.func28, Try.ntmps28
  go_wp2
  go_loop [6] (fun i => ∃ k : Nat, k ≤ cs.length ∧ i = .int .i64 k ∧ Hid (∀ j (hj : j < vs.length), j < k → vs[j] ≠ num)) (fun i => cs.length - (intOf i).toNat)
  case atStart => exact ⟨0, Nat.zero_le _, rfl, Lib.hid (fun j _ h => absurd h (by omega))⟩
  case round =>
    obtain ⟨k, hk, rfl, hh⟩ := hrel
    by_cases hlt : k < cs.length
    · have hlt2 : k < vs.length := by have := H5.out; omega
      obtain ⟨ad, rfl, hc⟩ := C_str_at H2.out hlt
      obtain ⟨ad', rfl, hc'⟩ := C_int_at H3.out hlt2
      by_cases he : vs[k] = num
      · have HL := Lib.hid (rlook_at hlt hlt2 (fun j hj hlt' => hh.out j hj hlt') he)
        have b0 : (vs[k] == num) = true := by simpa using he
        clear he
        go_wp2
        go_ret2
        exact ⟨by rw [HL.out]; rfl, rfl⟩
      · have H : Hid (∀ j (hj : j < vs.length), j < k + 1 → vs[j] ≠ num) := Lib.hid (fun j hj hlt' => by
          by_cases e : j = k
          · subst e; exact he
          · exact hh.out j hj (by omega))
        have b0 : (vs[k] == num) = false := by simpa using he
        clear he
        go_wp2
        go_round
        case rel => exact ⟨k + 1, by omega, by go_num, H⟩
        case measure => simp [intOf]; omega
    · have HL := Lib.hid (rlook_none H5.out (fun j hj => hh.out j hj (by have := H5.out; omega)))
      go_wp2
      go_ret2
      exact ⟨by rw [HL.out]; rfl, rfl⟩

/-- Bits as a text. -/
def txt (l : List Bool) : ByteArray := ⟨(l.map fun b => if b then (49 : UInt8) else 48).toArray⟩

theorem txt_snoc {l : List Bool} {k : Nat} {b : Bool} (h : l[k]? = some b) : txt (l.take k) ++ strOfNums [if b then 49 else 48] = txt (l.take (k + 1)) := by
  obtain ⟨hk, hb⟩ := List.getElem?_eq_some_iff.1 h
  apply ByteArray.ext
  apply Array.toList_inj.1
  rw [Joins.data_append, List.take_succ_eq_append_getElem hk, hb, strOfNums_data]
  unfold txt
  cases b <;> simp
theorem txt_size (l : List Bool) : (txt l).size = l.length := by
  unfold txt
  show (List.toArray _).size = _
  simp
theorem conv_one (W : World) (x : Int) : (convert 24 9 (.slice (some ⟨W.heap.size, 0, none⟩) 1 1)).run Try.prog (W.alloc (.cells #[.int .u8 x] 5)) = .ok (.string (strOfNums [x])) (W.alloc (.cells #[.int .u8 x] 5)) := by
  refine run_convert_bytes_arg (P := Try.prog) (W.alloc (.cells #[.int .u8 x] 5)) 24 5 Try.underlying24 Try.underlying5 W.heap.size 0 1 1 [x] rfl (fun i hi => ?_) 9 Try.underlying9
  obtain rfl : i = 0 := by omega
  rw [cell_of_heap (at_alloc _ _ rfl)]; rfl

/-! Plain: the texts' words are the bits' words. -/
def ch (b : Bool) : UInt8 := if b then 49 else 48
theorem ch_inj {a b : Bool} (h : ch a = ch b) : a = b := by cases a <;> cases b <;> first | rfl | (exact absurd h (by decide))
theorem txt_bits {c : ByteArray} (h : isCode c = true) : c.data.toList = (bitsOf c).map ch := by
  apply List.ext_getElem?
  intro k
  rw [List.getElem?_map]
  by_cases hk : k < c.size
  · have e1 : c.data.toList[k]? = some c[k] := by
      rw [List.getElem?_eq_getElem (by simpa using hk)]; rfl
    rw [e1]
    rcases byte_bits h hk with ⟨h1, h2⟩ | ⟨h1, h2⟩
    · rw [h2]
      have : c[k] = 48 := UInt8.toNat.inj (by show c[k].toNat = 48; omega)
      rw [this]; rfl
    · rw [h2]
      have : c[k] = 49 := UInt8.toNat.inj (by show c[k].toNat = 49; omega)
      rw [this]; rfl
  · rw [List.getElem?_eq_none (by simp; show c.size ≤ k; omega), List.getElem?_eq_none (by rw [bitsOf_length]; omega)]; rfl
theorem map_pre : ∀ (a b : List Bool), a.map ch <+: b.map ch ↔ a <+: b
  | [], b => by simp
  | x :: a, [] => by simp
  | x :: a, y :: b => by
    rw [List.map_cons, List.map_cons, List.cons_prefix_cons, List.cons_prefix_cons, map_pre a b]
    exact ⟨fun h => ⟨ch_inj h.1, h.2⟩, fun h => ⟨by rw [h.1], h.2⟩⟩
theorem txt_data (l : List Bool) : (txt l).data.toList = l.map ch := by unfold txt ch; simp
theorem isCode_size {c : ByteArray} (h : isCode c = true) : 1 ≤ c.size ∧ c.size ≤ 24 := by
  unfold isCode at h
  simp at h
  exact h.2
theorem beg_txt {c : ByteArray} (h : isCode c = true) (l : List Bool) (k : Nat) (hk : k = min 24 l.length) : beg (txt (l.take k)) c = (bitsOf c).isPrefixOf l := by
  unfold beg
  rw [Bool.eq_iff_iff, List.isPrefixOf_iff_prefix, List.isPrefixOf_iff_prefix, txt_bits h, txt_data, map_pre, List.prefix_take_iff, bitsOf_length]
  have := isCode_size h
  constructor
  · exact fun h => h.1
  · intro h2
    refine ⟨h2, ?_⟩
    have := h2.length_le
    rw [bitsOf_length] at this
    omega
theorem txt_beg {c : ByteArray} (h : isCode c = true) (l : List Bool) (k : Nat) (hk : k = min 24 l.length) (hn : (bitsOf c).isPrefixOf l = false) : beg c (txt (l.take k)) = l.isPrefixOf (bitsOf c) := by
  unfold beg
  rw [Bool.eq_iff_iff, List.isPrefixOf_iff_prefix, List.isPrefixOf_iff_prefix, txt_bits h, txt_data, map_pre]
  have hc := isCode_size h
  have hn' : ¬ bitsOf c <+: l := by
    intro hh
    rw [List.isPrefixOf_iff_prefix.2 hh] at hn
    cases hn
  by_cases hl : l.length ≤ 24
  · rw [List.take_of_length_le (by omega)]
  · constructor
    · intro h2
      have hle := h2.length_le
      rw [List.length_take, bitsOf_length] at hle
      have : l.take k = bitsOf c := h2.eq_of_length (by rw [List.length_take, bitsOf_length]; omega)
      exact absurd (this ▸ List.take_prefix k l) hn'
    · intro h2
      have := h2.length_le
      rw [bitsOf_length] at this
      omega
theorem pairs_get {cs : List ByteArray} {vs : List Int} {i : Nat} (h1 : i < cs.length) (h2 : i < vs.length) : (pairs cs vs)[i]? = some (bitsOf cs[i], vs[i]) := by
  unfold pairs
  rw [List.getElem?_zipWith]
  simp [h1, h2]
theorem spec_at {cs : List ByteArray} {vs : List Int} {l : List Bool} {i : Nat} (h1 : i < cs.length) (h2 : i < vs.length) (hpre : ∀ j (hj : j < cs.length), j < i → (bitsOf cs[j]).isPrefixOf l = false) (h : (bitsOf cs[i]).isPrefixOf l = true) :
    Pt.spec (pairs cs vs) l = .ok vs[i] cs[i].size := by
  have hl : (pairs cs vs).length = min cs.length vs.length := by unfold pairs; simp
  have : (pairs cs vs).find? (fun c => c.1.isPrefixOf l) = some (bitsOf cs[i], vs[i]) := by
    rw [List.find?_eq_some_iff_getElem]
    refine ⟨h, i, by omega, ?_, fun j hj => ?_⟩
    · have := pairs_get h1 h2
      rw [List.getElem?_eq_getElem (by omega)] at this
      exact Option.some.inj this
    · have := pairs_get (cs := cs) (vs := vs) (i := j) (by omega) (by omega)
      rw [List.getElem?_eq_getElem (by omega)] at this
      rw [Option.some.inj this]
      have := hpre j (by omega) hj
      simpa using this
  unfold Pt.spec
  rw [this]
  simp [bitsOf_length]
theorem spec_no {cs : List ByteArray} {vs : List Int} {l : List Bool} (hpre : ∀ j (hj : j < cs.length), (bitsOf cs[j]).isPrefixOf l = false) (hs : vs.length = cs.length) :
    Pt.spec (pairs cs vs) l = if cs.any (fun c => l.isPrefixOf (bitsOf c)) then .more else .code := by
  have hl : (pairs cs vs).length = min cs.length vs.length := by unfold pairs; simp
  have : (pairs cs vs).find? (fun c => c.1.isPrefixOf l) = none := by
    rw [List.find?_eq_none]
    intro c hc
    obtain ⟨j, hj, rfl⟩ := List.mem_iff_getElem.1 hc
    have h2 := pairs_get (cs := cs) (vs := vs) (i := j) (by omega) (by omega)
    rw [List.getElem?_eq_getElem (by omega)] at h2
    rw [Option.some.inj h2]
    have := hpre j (by omega)
    rw [this]; decide
  unfold Pt.spec
  rw [this]
  have ha : (pairs cs vs).any (fun c => l.isPrefixOf c.1) = cs.any (fun c => l.isPrefixOf (bitsOf c)) := by
    rw [Bool.eq_iff_iff, List.any_eq_true, List.any_eq_true]
    constructor
    · rintro ⟨c, hc, h⟩
      obtain ⟨j, hj, rfl⟩ := List.mem_iff_getElem.1 hc
      have h2 := pairs_get (cs := cs) (vs := vs) (i := j) (by omega) (by omega)
      rw [List.getElem?_eq_getElem (by omega)] at h2
      rw [Option.some.inj h2] at h
      exact ⟨cs[j], List.getElem_mem _, h⟩
    · rintro ⟨c, hc, h⟩
      obtain ⟨j, hj, rfl⟩ := List.mem_iff_getElem.1 hc
      have h2 := pairs_get (cs := cs) (vs := vs) (i := j) (by omega) (by omega)
      exact ⟨_, List.mem_of_getElem? h2, h⟩
  rw [← ha]
theorem more_yes {cs : List ByteArray} {l : List Bool} {j : Nat} (hj : j < cs.length) (h : l.isPrefixOf (bitsOf cs[j]) = true) : cs.any (fun c => l.isPrefixOf (bitsOf c)) = true := by
  rw [List.any_eq_true]; exact ⟨_, List.getElem_mem hj, h⟩
theorem more_no {cs : List ByteArray} {l : List Bool} (h : ∀ j (hj : j < cs.length), l.isPrefixOf (bitsOf cs[j]) = false) : cs.any (fun c => l.isPrefixOf (bitsOf c)) = false := by
  rw [List.any_eq_false]
  intro c hc
  obtain ⟨j, hj, rfl⟩ := List.mem_iff_getElem.1 hc
  rw [h j hj]; decide

set_option maxRecDepth 100000 in
set_option maxHeartbeats 2000000 in
theorem rget_in {B p : Nat} {cs : List ByteArray} {vs : List Int} (A : Option Addr) (nn cc : Nat) (bs : List Int) (at0 : Nat) (w : World) (hT : RT B w p cs vs) (hg : ¬ Bad cs vs) (hB : Bytes w A nn bs) (hat : at0 < 9223372036854775808) :
    Calls Try.prog 26 #[.pointer (some ⟨p, 0, none⟩), .slice A nn cc, .int .i64 (at0 : Int)] w fun e w' => e = .returned (.tuple #[.int .i64 (ansAt cs vs bs nn at0).v, .int .i64 (ansAt cs vs bs nn at0).n, .int .i64 (ansAt cs vs bs nn at0).e]) ∧ Below w.heap.size w w' := by
  have HG : Hid ((∀ (j : Nat) (hj : j < cs.length), isCode cs[j] = true) ∧ vs.length = cs.length ∧ cs.length ≤ 300) := by
    obtain ⟨_, _, g1, g2, g3, g4⟩ := pairs_ne hg
    exact Lib.hid ⟨fun j hj => List.all_eq_true.1 g3 _ (List.getElem_mem hj), g2.symm, g4⟩
  clear hg
  have HT := Lib.hid hT
  have HB := Lib.hid hB
  have hn := hB.2.1
  clear hT hB
  have h0 : ¬ (at0 : Int) < 0 := by omega
  go_enter Try.func26, Try.ntmps26
  go_wp2
  go_loopw [9] (fun s wr => ∃ k : Nat, k ≤ 24 ∧ k ≤ 8 * nn - at0 ∧ s = .string (txt ((bitsFrom bs at0 nn).take k)) ∧ Hid (Below w.heap.size w wr)) (fun s _ => match s with | .string x => 24 - x.size | _ => 0)
  case atStart => exact ⟨0, by omega, by omega, rfl, Lib.hid (Below.refl _ _)⟩
  case round =>
    obtain ⟨k, hk, hk2, rfl, HBl⟩ := hrel
    have hsz : (txt ((bitsFrom bs at0 nn).take k)).size = k := by
      unfold txt
      show (List.toArray _).size = k
      rw [List.size_toArray, List.length_map, List.length_take, bitsFrom_length]
      omega
    by_cases hlt : at0 + k < 8 * nn ∧ k < 24
    · have hl1 : (at0 : Int) + (k : Int) < 8 * (nn : Int) := by omega
      have hl2 : (k : Int) < 24 := by omega
      have hl3 : at0 + k < 8 * nn := hlt.1
      clear hlt
      have HBy := Lib.hid (HB.out.below HBl.out)
      go_wp2_with (first | (go_at_call 79; refine (rcount_any _ _ _ _ hn).mono ?_; rintro e w' ⟨rfl, rfl⟩))
      have hcall : Calls Try.prog 80 #[.slice A nn cc, .int .i64 ((at0 : Int) + (k : Int)), .int .i64 1] wr fun e w' => e = .returned (.tuple #[.int .i64 (bitInt bs (at0 + k)), .int .i64 0]) ∧ wr = w' := by
        have := rread_in A nn cc bs (at0 + k) wr HBy.out hl3
        rwa [Int.natCast_add] at this
      refine hcall.mono ?_
      rintro e w' ⟨rfl, rfl⟩
      clear hcall
      rcases bitInt_01 bs (at0 + k) with hx | hx
      · have HX : Hid (txt ((bitsFrom bs at0 nn).take k) ++ strOfNums [48] = txt ((bitsFrom bs at0 nn).take (k + 1))) := Lib.hid (by
          have := txt_snoc (bitsFrom_get (bs := bs) hl3)
          rwa [show bitAt bs (at0 + k) = false from by unfold bitAt; rw [hx]; rfl] at this)
        rw [hx]
        clear hx
        have hcv := conv_one wr 48
        have hss : (strOfNums [48]).size = 1 := strOfNums_size _
        go_wp2
        go_roundw
        case rel => exact ⟨k + 1, by omega, by omega, by rw [HX.out], Lib.hid (below_alloc HBl.out _)⟩
        case measure =>
          show 24 - (txt ((bitsFrom bs at0 nn).take k) ++ strOfNums [48]).size < 24 - (txt ((bitsFrom bs at0 nn).take k)).size
          rw [HX.out, txt_size, txt_size, List.length_take, List.length_take, bitsFrom_length]
          omega
      · have HX : Hid (txt ((bitsFrom bs at0 nn).take k) ++ strOfNums [49] = txt ((bitsFrom bs at0 nn).take (k + 1))) := Lib.hid (by
          have := txt_snoc (bitsFrom_get (bs := bs) hl3)
          rwa [show bitAt bs (at0 + k) = true from by unfold bitAt; rw [hx]; rfl] at this)
        rw [hx]
        clear hx
        have hcv := conv_one wr 49
        have hss : (strOfNums [49]).size = 1 := strOfNums_size _
        go_wp2
        go_roundw
        case rel => exact ⟨k + 1, by omega, by omega, by rw [HX.out], Lib.hid (below_alloc HBl.out _)⟩
        case measure =>
          show 24 - (txt ((bitsFrom bs at0 nn).take k) ++ strOfNums [49]).size < 24 - (txt ((bitsFrom bs at0 nn).take k)).size
          rw [HX.out, txt_size, txt_size, List.length_take, List.length_take, bitsFrom_length]
          omega
    · have hend : k = min 24 (8 * nn - at0) := by omega
      have hc1 : ¬ ((at0 : Int) + (k : Int) < 8 * (nn : Int)) ∨ ¬ ((k : Int) < 24) := by omega
      have HE : Hid (k = min 24 (bitsFrom bs at0 nn).length) := Lib.hid (by rw [bitsFrom_length]; exact hend)
      have HA : Hid (ansAt cs vs bs nn at0 = ansOf (Pt.spec (pairs cs vs) (bitsFrom bs at0 nn))) := Lib.hid (by unfold ansAt; rw [if_neg (by omega)]; simp)
      have HTw := Lib.hid (HT.out.below HBl.out)
      obtain ⟨sn, hsn⟩ : ∃ sn, txt ((bitsFrom bs at0 nn).take k) = sn := ⟨_, rfl⟩
      have HSN := Lib.hid hsn
      have hsm : sn.size = k := hsn ▸ hsz
      rw [hsn]
      clear hsn hsz hend
      have HS := Lib.hid (show sn.size ≤ maxLen by rw [hsm]; unfold maxLen; omega)
      have HH : Hid (∃ a c a' c', wr.heap[p]? = some (.cells #[.slice a cs.length c, .slice a' vs.length c'] 95 (0, 0)) ∧ Kd.string.C wr a cs.length cs ∧ (Kd.int .i64).C wr a' vs.length vs) := by obtain ⟨a, c, a', c', h1, h2, h3, _, _⟩ := HTw.out.lies; exact Lib.hid ⟨a, c, a', c', h1, h2, h3⟩
      have HCS := Lib.hid HTw.out.size
      obtain ⟨a, c, a', c', h1, h2, h3⟩ := HH.out
      have f0 : wr.cell? ⟨p, 0, none⟩ = some (.slice a cs.length c) := by rw [cell_of_heap h1]; rfl
      have f1 : wr.cell? ⟨p, 1, none⟩ = some (.slice a' vs.length c') := by rw [cell_of_heap h1]; rfl
      have H2 := Lib.hid h2
      have H3 := Lib.hid h3
      have hm : cs.length ≤ 9223372036854775807 := h2.2.1
      clear h1 h2 h3
      have hcase : ¬ ((at0 : Int) + (k : Int) < 8 * (nn : Int)) ∨ ((at0 : Int) + (k : Int) < 8 * (nn : Int)) ∧ ¬ ((k : Int) < 24) := by omega
      have hov : (at0 : Int) + (k : Int) < 9223372036854775808 := by omega
      clear hc1
      have hcase' := hcase
      clear hcase
      rcases hcase' with c1 | ⟨c1, c2⟩
      · have b1 : decide ((at0 : Int) + (k : Int) < 8 * (nn : Int)) = false := by simpa using c1
        clear c1
        go_wp2_with (first | (go_at_call 79; refine (rcount_any _ _ _ _ hn).mono ?_; rintro e w' ⟨rfl, rfl⟩))
        go_loop [12] (fun i => ∃ k : Nat, k ≤ cs.length ∧ i = .int .i64 k ∧ Hid (∀ j (hj : j < cs.length), j < k → beg sn cs[j] = false)) (fun i => cs.length - (intOf i).toNat)
        case atStart => exact ⟨0, Nat.zero_le _, rfl, Lib.hid (fun j _ h => absurd h (by omega))⟩
        case round =>
          obtain ⟨q, hq, rfl, hh⟩ := hrel
          by_cases hlt : q < cs.length
          · have hlt2 : q < vs.length := by have := HG.out.2.1; omega
            obtain ⟨ad, rfl, hc⟩ := C_str_at H2.out hlt
            obtain ⟨ad', rfl, hc'⟩ := C_int_at H3.out hlt2
            have hs2 := Lib.hid (HCS.out _ (List.getElem_mem hlt))
            cases hb : beg sn cs[q] with
            | true =>
              have HR : Hid (ansAt cs vs bs nn at0 = ⟨vs[q], cs[q].size, 0⟩) := Lib.hid (by
                rw [HA.out, spec_at hlt hlt2 (fun j hj hjq => by rw [← beg_txt (HG.out.1 j hj) _ _ HE.out, HSN.out]; exact hh.out j hj hjq) (by rw [← beg_txt (HG.out.1 q hlt) _ _ HE.out, HSN.out]; exact hb)]
                rfl)
              go_wp2_with (go_at_call 76; refine (begins_any _ _ _ HS.out hs2.out).mono ?_; rintro e w' ⟨rfl, rfl⟩; rw [hb])
              go_quiet (fail)
              go_wp2
              go_ret3
              exact ⟨by rw [HR.out]; rfl, by first | exact HBl.out | exact pw_below_drewN HBl.out _⟩
            | false =>
              have H : Hid (∀ j (hj : j < cs.length), j < q + 1 → beg sn cs[j] = false) := Lib.hid (fun j hj hlt' => by
                by_cases e : j = q
                · subst e; exact hb
                · exact hh.out j hj (by omega))
              go_wp2_with (go_at_call 76; refine (begins_any _ _ _ HS.out hs2.out).mono ?_; rintro e w' ⟨rfl, rfl⟩; rw [hb])
              go_round
              case rel => exact ⟨q + 1, by omega, by go_num, H⟩
              case measure => simp [intOf]; omega
          · have HNO := Lib.hid (show ∀ j (hj : j < cs.length), (bitsOf cs[j]).isPrefixOf (bitsFrom bs at0 nn) = false from fun j hj => by
              rw [← beg_txt (HG.out.1 j hj) _ _ HE.out, HSN.out]; exact hh.out j hj (by omega))
            clear hh
            go_wp2
            go_loop [13] (fun i => ∃ k : Nat, k ≤ cs.length ∧ i = .int .i64 k ∧ Hid (∀ j (hj : j < cs.length), j < k → beg cs[j] sn = false)) (fun i => cs.length - (intOf i).toNat)
            case atStart => exact ⟨0, Nat.zero_le _, rfl, Lib.hid (fun j _ h => absurd h (by omega))⟩
            case round =>
              obtain ⟨q', hq', rfl, hh⟩ := hrel
              by_cases hlt : q' < cs.length
              · obtain ⟨ad, rfl, hc⟩ := C_str_at H2.out hlt
                have hs2 := Lib.hid (HCS.out _ (List.getElem_mem hlt))
                cases hb : beg cs[q'] sn with
                | true =>
                  have HR : Hid (ansAt cs vs bs nn at0 = ⟨0, 0, 5⟩) := Lib.hid (by
                    rw [HA.out, spec_no HNO.out HG.out.2.1, more_yes hlt (by rw [← txt_beg (HG.out.1 _ hlt) _ _ HE.out (HNO.out _ hlt), HSN.out]; exact hb)]
                    rfl)
                  go_wp2_with (go_at_call 76; refine (begins_any _ _ _ hs2.out HS.out).mono ?_; rintro e w' ⟨rfl, rfl⟩; rw [hb])
                  go_ret3
                  exact ⟨by rw [HR.out]; rfl, by first | exact HBl.out | exact pw_below_drewN HBl.out _⟩
                | false =>
                  have H : Hid (∀ j (hj : j < cs.length), j < q' + 1 → beg cs[j] sn = false) := Lib.hid (fun j hj hlt' => by
                    by_cases e : j = q'
                    · subst e; exact hb
                    · exact hh.out j hj (by omega))
                  go_wp2_with (go_at_call 76; refine (begins_any _ _ _ hs2.out HS.out).mono ?_; rintro e w' ⟨rfl, rfl⟩; rw [hb])
                  go_round
                  case rel => exact ⟨q' + 1, by omega, by go_num, H⟩
                  case measure => simp [intOf]; omega
              · have HR : Hid (ansAt cs vs bs nn at0 = ⟨0, 0, 7⟩) := Lib.hid (by
                  rw [HA.out, spec_no HNO.out HG.out.2.1, more_no (fun j hj => by rw [← txt_beg (HG.out.1 _ hj) _ _ HE.out (HNO.out _ hj), HSN.out]; exact hh.out j hj (by omega))]
                  rfl)
                go_wp2
                go_ret3
                exact ⟨by rw [HR.out]; rfl, by first | exact HBl.out | exact pw_below_drewN HBl.out _⟩
      · have b1 : decide ((at0 : Int) + (k : Int) < 8 * (nn : Int)) = true := by simpa using c1
        have b2 : decide ((k : Int) < 24) = false := by simpa using c2
        clear c1 c2
        go_wp2_with (first | (go_at_call 79; refine (rcount_any _ _ _ _ hn).mono ?_; rintro e w' ⟨rfl, rfl⟩))
        go_loop [12] (fun i => ∃ k : Nat, k ≤ cs.length ∧ i = .int .i64 k ∧ Hid (∀ j (hj : j < cs.length), j < k → beg sn cs[j] = false)) (fun i => cs.length - (intOf i).toNat)
        case atStart => exact ⟨0, Nat.zero_le _, rfl, Lib.hid (fun j _ h => absurd h (by omega))⟩
        case round =>
          obtain ⟨q, hq, rfl, hh⟩ := hrel
          by_cases hlt : q < cs.length
          · have hlt2 : q < vs.length := by have := HG.out.2.1; omega
            obtain ⟨ad, rfl, hc⟩ := C_str_at H2.out hlt
            obtain ⟨ad', rfl, hc'⟩ := C_int_at H3.out hlt2
            have hs2 := Lib.hid (HCS.out _ (List.getElem_mem hlt))
            cases hb : beg sn cs[q] with
            | true =>
              have HR : Hid (ansAt cs vs bs nn at0 = ⟨vs[q], cs[q].size, 0⟩) := Lib.hid (by
                rw [HA.out, spec_at hlt hlt2 (fun j hj hjq => by rw [← beg_txt (HG.out.1 j hj) _ _ HE.out, HSN.out]; exact hh.out j hj hjq) (by rw [← beg_txt (HG.out.1 q hlt) _ _ HE.out, HSN.out]; exact hb)]
                rfl)
              go_wp2_with (go_at_call 76; refine (begins_any _ _ _ HS.out hs2.out).mono ?_; rintro e w' ⟨rfl, rfl⟩; rw [hb])
              go_quiet (fail)
              go_wp2
              go_ret3
              exact ⟨by rw [HR.out]; rfl, by first | exact HBl.out | exact pw_below_drewN HBl.out _⟩
            | false =>
              have H : Hid (∀ j (hj : j < cs.length), j < q + 1 → beg sn cs[j] = false) := Lib.hid (fun j hj hlt' => by
                by_cases e : j = q
                · subst e; exact hb
                · exact hh.out j hj (by omega))
              go_wp2_with (go_at_call 76; refine (begins_any _ _ _ HS.out hs2.out).mono ?_; rintro e w' ⟨rfl, rfl⟩; rw [hb])
              go_round
              case rel => exact ⟨q + 1, by omega, by go_num, H⟩
              case measure => simp [intOf]; omega
          · have HNO := Lib.hid (show ∀ j (hj : j < cs.length), (bitsOf cs[j]).isPrefixOf (bitsFrom bs at0 nn) = false from fun j hj => by
              rw [← beg_txt (HG.out.1 j hj) _ _ HE.out, HSN.out]; exact hh.out j hj (by omega))
            clear hh
            go_wp2
            go_loop [13] (fun i => ∃ k : Nat, k ≤ cs.length ∧ i = .int .i64 k ∧ Hid (∀ j (hj : j < cs.length), j < k → beg cs[j] sn = false)) (fun i => cs.length - (intOf i).toNat)
            case atStart => exact ⟨0, Nat.zero_le _, rfl, Lib.hid (fun j _ h => absurd h (by omega))⟩
            case round =>
              obtain ⟨q', hq', rfl, hh⟩ := hrel
              by_cases hlt : q' < cs.length
              · obtain ⟨ad, rfl, hc⟩ := C_str_at H2.out hlt
                have hs2 := Lib.hid (HCS.out _ (List.getElem_mem hlt))
                cases hb : beg cs[q'] sn with
                | true =>
                  have HR : Hid (ansAt cs vs bs nn at0 = ⟨0, 0, 5⟩) := Lib.hid (by
                    rw [HA.out, spec_no HNO.out HG.out.2.1, more_yes hlt (by rw [← txt_beg (HG.out.1 _ hlt) _ _ HE.out (HNO.out _ hlt), HSN.out]; exact hb)]
                    rfl)
                  go_wp2_with (go_at_call 76; refine (begins_any _ _ _ hs2.out HS.out).mono ?_; rintro e w' ⟨rfl, rfl⟩; rw [hb])
                  go_ret3
                  exact ⟨by rw [HR.out]; rfl, by first | exact HBl.out | exact pw_below_drewN HBl.out _⟩
                | false =>
                  have H : Hid (∀ j (hj : j < cs.length), j < q' + 1 → beg cs[j] sn = false) := Lib.hid (fun j hj hlt' => by
                    by_cases e : j = q'
                    · subst e; exact hb
                    · exact hh.out j hj (by omega))
                  go_wp2_with (go_at_call 76; refine (begins_any _ _ _ hs2.out HS.out).mono ?_; rintro e w' ⟨rfl, rfl⟩; rw [hb])
                  go_round
                  case rel => exact ⟨q' + 1, by omega, by go_num, H⟩
                  case measure => simp [intOf]; omega
              · have HR : Hid (ansAt cs vs bs nn at0 = ⟨0, 0, 7⟩) := Lib.hid (by
                  rw [HA.out, spec_no HNO.out HG.out.2.1, more_no (fun j hj => by rw [← txt_beg (HG.out.1 _ hj) _ _ HE.out (HNO.out _ hj), HSN.out]; exact hh.out j hj (by omega))]
                  rfl)
                go_wp2
                go_ret3
                exact ⟨by rw [HR.out]; rfl, by first | exact HBl.out | exact pw_below_drewN HBl.out _⟩

theorem rget_any {B p : Nat} {cs : List ByteArray} {vs : List Int} (A : Option Addr) (nn cc : Nat) (bs : List Int) (i : Int) (w : World) (hT : RT B w p cs vs) (hg : ¬ Bad cs vs) (hB : Bytes w A nn bs) (h63 : i < 9223372036854775808) :
    Calls Try.prog 26 #[.pointer (some ⟨p, 0, none⟩), .slice A nn cc, .int .i64 i] w fun e w' => e = .returned (.tuple #[.int .i64 (ansAt cs vs bs nn i).v, .int .i64 (ansAt cs vs bs nn i).n, .int .i64 (ansAt cs vs bs nn i).e]) ∧ Below w.heap.size w w' := by
  by_cases hi : i < 0
  · have HA : Hid (ansAt cs vs bs nn i = ⟨0, 0, 3⟩) := Lib.hid (by unfold ansAt; rw [if_pos hi])
    go_enter Try.func26, Try.ntmps26
    go_wp2
    go_ret3
    exact ⟨by rw [HA.out]; rfl, Below.refl _ _⟩
  · obtain ⟨k, rfl⟩ : ∃ k : Nat, i = k := ⟨i.toNat, by omega⟩
    exact rget_in A nn cc bs k w hT hg hB (by omega)
end Go.Proofs.Ythjfigaalknoiaa
