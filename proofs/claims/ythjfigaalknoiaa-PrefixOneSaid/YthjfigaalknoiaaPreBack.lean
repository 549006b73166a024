/- PrefixBack returns true: the walk. -/
import Derived.Test.YthjfigaalknoiaaMade
import Derived.Test.YthjfigaalknoiaaWrote
import Derived.Test.YthjfigaalknoiaaPenBytes
import Derived.Test.YthjfigaalknoiaaLaws3
import Derived.Test.YthjfigaalknoiaaVLaws
set_option linter.unusedVariables false
set_option linter.unusedSimpArgs false
namespace Go.Proofs.Ythjfigaalknoiaa
open Go.RowKit Go.Proofs.YthjfigaalknoiaaW.PrintWords Pt

/-- The code that a number picks. -/
def kd (ks : List ByteArray) (x : Int) : ByteArray := ks.getD (x % ks.length).toNat ⟨#[]⟩
/-- The bits of the codes that numbers pick. -/
def bw (ks : List ByteArray) (ls : List Int) : List Bool := ls.flatMap fun x => bitsOf (kd ks x)
/-- What made's texts are. -/
structure KS (ks : List ByteArray) : Prop where
  code : ∀ s ∈ ks, isCode s = true
  apart : ks.Pairwise Apt
  len : ks.length ≤ 40
  ne : ks ≠ []
theorem KS.pos {ks : List ByteArray} (h : KS ks) : 0 < ks.length := List.length_pos_iff.2 h.ne
theorem KS.good {ks : List ByteArray} (h : KS ks) : ¬ Bad ks (kidx ks.length) := kept_good h.code h.len h.ne
theorem KS.pairs {ks : List ByteArray} (h : KS ks) : (pairs ks (kidx ks.length)).Pairwise Apart := kept_apart h.apart
theorem kd_ok {ks : List ByteArray} (h : KS ks) (x : Int) : ∃ m : Nat, x % (ks.length : Int) = (m : Int) ∧ m < ks.length ∧ isCode (kd ks x) = true ∧ 1 ≤ (kd ks x).size ∧ (kd ks x).size ≤ 24 ∧ ks[m]? = some (kd ks x) ∧ (kidx ks.length)[m]? = some (m : Int) ∧
    (look (told ks (kidx ks.length)) (m : Int)).1 = kd ks x ∧ putErr (told ks (kidx ks.length)) (m : Int) = 0 := by
  have hL := h.pos
  have h0 := Int.emod_nonneg x (b := (ks.length : Int)) (by omega)
  have h1 := Int.emod_lt_of_pos x (b := (ks.length : Int)) (by omega)
  obtain ⟨m, hm⟩ : ∃ m : Nat, x % (ks.length : Int) = (m : Int) := ⟨(x % (ks.length : Int)).toNat, by omega⟩
  have hml : m < ks.length := by omega
  have hkd : kd ks x = ks[m] := by
    unfold kd
    rw [hm, Int.toNat_natCast, List.getD_eq_getElem?_getD, List.getElem?_eq_getElem hml]
    rfl
  have hsz := isCode_size (h.code _ (List.getElem_mem hml))
  have hki : ∀ j (hj : j < (kidx ks.length).length), (kidx ks.length)[j] = (j : Int) := fun j hj => by
    have := kidx_at (n := ks.length) (k := j) (by rw [kidx_length] at hj; exact hj)
    rw [List.getElem?_eq_getElem hj] at this
    exact Option.some.inj this
  have hr : rlook ks (kidx ks.length) (m : Int) = (ks[m], 0) := rlook_at hml (by rw [kidx_length]; exact hml) (fun j hj hjm => by rw [hki]; omega) (by rw [hki])
  refine ⟨m, hm, hml, ?_⟩
  rw [hkd]
  refine ⟨h.code _ (List.getElem_mem hml), hsz.1, hsz.2, List.getElem?_eq_getElem hml, kidx_at hml, ?_, ?_⟩
  · rw [(told_look _ _ _).1, hr]
  · rw [(told_look _ _ _).2, hr]
theorem bw_take {ks : List ByteArray} {ls : List Int} {j : Nat} (hj : j < ls.length) : bw ks (ls.take (j + 1)) = bw ks (ls.take j) ++ bitsOf (kd ks ls[j]) := by
  unfold bw
  rw [List.take_succ_eq_append_getElem hj, List.flatMap_append]
  simp
theorem bw_length {ks : List ByteArray} (h : KS ks) : ∀ ls : List Int, (bw ks ls).length ≤ 24 * ls.length
  | [] => by simp [bw]
  | x :: ls => by
    have ih := bw_length h ls
    obtain ⟨m, _, _, _, _, h24, _⟩ := kd_ok h x
    unfold bw at ih ⊢
    rw [List.flatMap_cons, List.length_append, bitsOf_length, List.length_cons]
    omega
theorem bw_split {ks : List ByteArray} {ls : List Int} {j : Nat} (hj : j < ls.length) : bw ks ls = bw ks (ls.take j) ++ bitsOf (kd ks ls[j]) ++ bw ks (ls.drop (j + 1)) := by
  rw [← bw_take hj]
  unfold bw
  rw [← List.flatMap_append, List.take_append_drop]

set_option maxRecDepth 100000 in
theorem clone_cap (a : Addr) (n c : Nat) (bs : List Int) (w : World) (hR : Row w (some a) n (bs.map (Value.int .u8))) (hn : n ≤ 100000) :
    Calls Try.prog 89 #[.slice (some a) n c] w fun e w' => ∃ A' c', e = .returned (.slice A' n c') ∧ Below w.heap.size w w' ∧ Row w' A' n (bs.map (Value.int .u8)) ∧ n ≤ c' := by
  have HR := Lib.hid hR
  clear hR
  have hnn := fun W => Lib.run_eql_slice_nil (P := Try.prog) W 24 5 (some a) n c 0 0 Try.underlying24
  go_enter Try.func89, Try.ntmps89
  go_wp2_with (at_builtin; refine wpList_append_fresh (W := w) rfl _ _ 24 5 _ 1 rfl Try.underlying24 info5 rfl rfl (some a) n c rfl _ HR.out (fun u hu => by simp at hu; obtain ⟨s, _, rfl⟩ := hu; rfl) (by decide) (by omega) ?_; intro v1 w1 hcp; obtain ⟨A', c', rfl, hcc, hrow, _⟩ := hcp.row; have HP1 := Lib.hid (And.intro hcp.bl (And.intro hrow hcc)); clear hcp hrow hcc)
  go_ret
  exact ⟨A', c', rfl, HP1.out.1, HP1.out.2.1, HP1.out.2.2⟩
theorem pbytes_cap {B : Nat} {w0 w : World} {p : Nat} {l : List Bool} {v : Value} {bs : List Int} (h : PenAt B w0 w p l v bs) (hl : l.length ≤ 100000) :
    Calls Try.prog 51 #[.pointer (some ⟨p, 0, none⟩)] w fun e w' => ∃ A c, e = .returned (.slice A ((l.length + 7) / 8) c) ∧ Below w.heap.size w w' ∧ Bytes w' A ((l.length + 7) / 8) bs ∧ (l.length + 7) / 8 ≤ c := by
  obtain ⟨c0, c1, c2⟩ := h.cells
  obtain ⟨A, c, rfl, hR, hN⟩ := pen_row h
  have HR := Lib.hid hR
  have HRg := Lib.hid h.rng
  have HN := Lib.hid hN
  have HLe := Lib.hid h.len
  clear hR hN h
  obtain ⟨n, hn⟩ : ∃ n, (l.length + 7) / 8 = n := ⟨_, rfl⟩
  have hn2 : n ≤ 100000 := by omega
  rw [hn] at c0 HR HN HLe ⊢
  clear hn
  cases A with
  | none =>
    obtain ⟨rfl, rfl⟩ := HN.out rfl
    go_enter Try.func51, Try.ntmps51
    go_wp2_with (first | (go_at_call 86; refine (pnone_any _ _ c2).mono ?_; rintro e w' ⟨rfl, rfl⟩) | (go_at_call 89; refine (clone_nil _ _).mono ?_; rintro e w' ⟨rfl, rfl⟩))
    go_ret
    exact ⟨none, 0, rfl, Below.refl _ _, Bytes_none w, Nat.le_refl _⟩
  | some a =>
    go_enter Try.func51, Try.ntmps51
    go_wp2_with fail
    refine (pnone_any _ _ c2).mono ?_
    rintro e w' ⟨rfl, rfl⟩
    go_wp2_with fail
    refine (clone_cap a n c bs w HR.out hn2).mono ?_
    rintro e w' ⟨A', c', rfl, hb, hR2, hcc⟩
    have HB := Lib.hid hb
    have HR2 := Lib.hid hR2
    have HC2 := Lib.hid hcc
    clear hb hR2 hcc
    go_wp2
    go_ret
    exact ⟨A', c', rfl, HB.out, ⟨int_row HR2.out (by omega), by omega, HRg.out⟩, HC2.out⟩
theorem Bytes.take {w : World} {A : Option Addr} {n k : Nat} {bs : List Int} (h : Bytes w A n bs) (hk : k ≤ n) : Bytes w A k (bs.take k) := by
  obtain ⟨⟨h1, h2, h3⟩, h4, h5⟩ := h
  have hl : bs.length = n := h1
  refine ⟨⟨by rw [List.length_take]; omega, by omega, fun hp => ?_⟩, by omega, fun b hb => h5 b (List.mem_of_mem_take hb)⟩
  obtain ⟨ad, e, hc⟩ := h3 (by omega)
  refine ⟨ad, e, fun j s hs => hc j s ?_⟩
  have hjk : j < k := by
    have := (List.getElem?_eq_some_iff.1 hs).1
    rw [List.length_take] at this
    omega
  rw [List.getElem?_take_of_lt hjk] at hs
  exact hs

set_option maxRecDepth 100000 in
set_option maxHeartbeats 4000000 in
theorem preback_big (A A' : Option Addr) (n c n' c' : Nat) (cs : List ByteArray) (w : World) (hC : Kd.string.C w A n cs) (hs : ∀ s ∈ cs, s.size ≤ maxLen) (h : 60 < n ∨ 40 < n') :
    Calls Try.prog 11 #[.slice A n c, .slice A' n' c'] w fun e w' => e = .returned (.bool true) ∧ Below w.heap.size w w' := by
  have HC := Lib.hid hC
  have HS := Lib.hid hs
  clear hC hs
  by_cases h1 : (60 : Int) < (n : Int)
  · clear h
    go_enter Try.func11, Try.ntmps11
    go_wp2_with fail
    refine (known_any w).mono ?_
    rintro e w1 ⟨rfl, hb⟩
    have HB := Lib.hid hb
    clear hb
    go_wp2_with fail
    refine (long_any _ _ _ _ _ (Kd.C_below HC.out HB.out) HS.out).mono ?_
    rintro e w' ⟨rfl | rfl, rfl⟩ <;> (
    go_wp2
    go_ret
    exact ⟨rfl, HB.out⟩)
  · have h2 : (40 : Int) < (n' : Int) := by omega
    clear h
    go_enter Try.func11, Try.ntmps11
    go_wp2_with fail
    refine (known_any w).mono ?_
    rintro e w1 ⟨rfl, hb⟩
    have HB := Lib.hid hb
    clear hb
    go_wp2_with fail
    refine (long_any _ _ _ _ _ (Kd.C_below HC.out HB.out) HS.out).mono ?_
    rintro e w' ⟨rfl | rfl, rfl⟩ <;> (
    go_wp2
    go_ret
    exact ⟨rfl, HB.out⟩)

set_option maxRecDepth 100000 in
set_option maxHeartbeats 4000000 in
theorem preback_any (A A' : Option Addr) (n c n' c' : Nat) (cs : List ByteArray) (ls : List Int) (w : World) (hC : Kd.string.C w A n cs) (hs : ∀ s ∈ cs, s.size ≤ maxLen) (hV : (Kd.int .i64).C w A' n' ls) :
    Calls Try.prog 11 #[.slice A n c, .slice A' n' c'] w fun e w' => e = .returned (.bool true) ∧ Below w.heap.size w w' := by
  by_cases hbig : 60 < n ∨ 40 < n'
  · exact preback_big A A' n c n' c' cs w hC hs hbig
  have HC := Lib.hid hC
  have HS := Lib.hid hs
  have HV := Lib.hid hV
  have HLn : Hid (ls.length = n') := Lib.hid hV.1
  have hn60 : n ≤ 60 := by omega
  have hn40 : n' ≤ 40 := by omega
  have q1 : ¬ (60 : Int) < (n : Int) := by omega
  have q2 : ¬ (40 : Int) < (n' : Int) := by omega
  clear hC hs hV hbig
  go_enter Try.func11, Try.ntmps11
  go_wp2_with fail
  refine (known_any w).mono ?_
  rintro e w1 ⟨rfl, hb⟩
  have HB1 := Lib.hid hb
  clear hb
  go_wp2_with fail
  refine (long_any _ _ _ _ _ (Kd.C_below HC.out HB1.out) HS.out).mono ?_
  rintro e w' ⟨rfl | rfl, rfl⟩
  · go_wp2
    go_ret
    exact ⟨rfl, HB1.out⟩
  go_wp2_with fail
  refine (made_any A n c cs w1 (Kd.C_below HC.out HB1.out) hn60).mono ?_
  rintro e w2 ⟨hb, ks, A1, c1, hcode, hapart, h40, hK, hm⟩
  have HB2 := Lib.hid (HB1.out.trans (hb.mono HB1.out.size))
  clear hb
  rcases hm with ⟨rfl, rfl⟩ | ⟨hne, p, rfl, hT⟩
  · clear hcode hapart h40 hK
    simp only [List.length_nil]
    go_wp2
    go_ret
    exact ⟨rfl, HB2.out⟩
  have HKS : Hid (KS ks) := Lib.hid ⟨hcode, hapart, h40, hne⟩
  have HK := Lib.hid hK
  have HT := Lib.hid hT
  have hpos := HKS.out.pos
  have b0 : ((ks.length : Int) == 0) = false := by rw [beq_eq_false_iff_ne]; omega
  have b1 : ((ks.length : Int) != (ks.length : Int)) = false := by simp
  obtain ⟨ad1, rfl, _⟩ := C_str_at hK hpos
  clear hcode hapart hne hK hT
  go_wp2_with fail
  refine (newpen_any w2).mono ?_
  rintro e w3 ⟨rfl, hP⟩
  have HP3 := Lib.hid hP
  have HBs := Lib.hid (Nat.le_of_lt (Array.getElem?_eq_some_iff.1 hP.hp).1)
  have HT3 := Lib.hid (HT.out.below hP.bl)
  clear hP
  go_wp2_with fail
  refine (tr_codes w3 HT3.out).mono ?_
  rintro e w' ⟨rfl, rfl⟩
  have hB2w : w.heap.size ≤ w2.heap.size := HB2.out.size
  go_wp2
  go_loopw [9] (fun i wr => ∃ (j : Nat) (v : Value) (bs : List Int), j ≤ n' ∧ i = .int .i64 j ∧ Hid (PenAt w2.heap.size w2 wr w2.heap.size (bw ks (ls.take j)) v bs) ∧ Hid (w2.heap.size ≤ wr.heap.size)) (fun i _ => n' - (intOf i).toNat)
  case atStart => exact ⟨0, _, _, Nat.zero_le _, rfl, HP3, HBs⟩
  case round =>
    clear HP3 HBs HT3
    obtain ⟨j, v, bs, hj, rfl, hP, hBs⟩ := hrel
    by_cases hlt : j < n'
    · have hjl : j < ls.length := by rw [HLn.out]; exact hlt
      have HBW : Hid (Below w.heap.size w wr) := Lib.hid (HB2.out.trans (hP.out.bl.mono hB2w))
      obtain ⟨ad, rfl, hc⟩ := C_int_at (by rw [HLn.out]; exact Kd.C_below HV.out HBW.out) hjl
      obtain ⟨x, hx⟩ : ∃ x, ls[j] = x := ⟨_, rfl⟩
      obtain ⟨m, hm, hml, hok⟩ := kd_ok HKS.out x
      obtain ⟨d, hd⟩ : ∃ d, kd ks x = d := ⟨_, rfl⟩
      have hkt := bw_take (ks := ks) hjl
      rw [hx, hd] at hkt
      rw [hd] at hok
      rw [hx] at hc
      obtain ⟨ad1', e1, hck⟩ := C_str_at (Kd.C_below HK.out hP.out.bl) hml
      obtain rfl : ad1 = ad1' := Option.some.inj e1
      rw [Option.some.inj ((List.getElem?_eq_getElem hml).symm.trans hok.2.2.2.1)] at hck
      have HM := Lib.hid hm
      have HOK := Lib.hid hok
      have HKT := Lib.hid hkt
      have HTr := Lib.hid (HT.out.below hP.out.bl)
      have hd1 := hok.2.1
      have hd2 := hok.2.2.1
      have hi1 : (m : Int) < (ks.length : Int) := by omega
      have hlen : (bw ks (ls.take j)).length + d.size ≤ 99999 := by
        have := bw_length HKS.out (ls.take j)
        rw [List.length_take] at this
        omega
      have HLen := Lib.hid hlen
      clear hx hd hm hok hkt hlen e1
      go_wp2_with fail
      refine (pick_any x ks.length wr (by omega) (by omega)).mono ?_
      rw [HM.out]
      rintro e w' ⟨rfl, rfl⟩
      go_wp2_with fail
      refine (puts_yes (m : Int) d 0 wr HTr.out HOK.out.2.2.2.2.2.1 HOK.out.2.2.2.2.2.2).mono ?_
      rintro e w4 ⟨rfl, hb⟩
      have HP4 := Lib.hid (hP.out.below hb hBs.out)
      have HB4 := Lib.hid (Nat.le_trans hBs.out hb.size)
      have hck4 : w4.cell? (ad1.add m) = some (.string d) := (hb.cell (World.block_lt_of_cell? _ _ hck)).trans hck
      clear hb hc hck
      go_wp2_with fail
      refine (pcode_any HP4.out HB4.out d HOK.out.1 HLen.out).mono ?_
      rintro e w5 ⟨rfl, ⟨v', bs', hP5⟩, hB5⟩
      rw [← HKT.out] at hP5
      have HP5 := Lib.hid hP5
      have HB5 := Lib.hid hB5
      clear hP5 hB5 hck4
      go_wp2
      go_roundw
      case rel => exact ⟨j + 1, v', bs', by omega, by go_num, HP5, HB5⟩
      case measure => simp [intOf]; omega
    · obtain rfl : j = n' := by omega
      clear hlt hj
      have hPf : PenAt w2.heap.size w2 wr w2.heap.size (bw ks ls) v bs := by
        have := hP.out
        rwa [List.take_of_length_le (by rw [HLn.out]; exact Nat.le_refl _)] at this
      have HPF := Lib.hid hPf
      have hPF_bit := hPf.bit
      have hLall : (bw ks ls).length ≤ 100000 := by have := bw_length HKS.out ls; rw [HLn.out] at this; omega
      have HLall := Lib.hid hLall
      clear hP hPf hLall
      obtain ⟨wq, hwq⟩ : ∃ wq, wq = wr := ⟨_, rfl⟩
      subst hwq
      go_wp2_with fail
      refine (pbytes_cap HPF.out HLall.out).mono ?_
      rintro e w4 ⟨Ab, cb, rfl, hb, hBy, hcap⟩
      have HPB := Lib.hid (HPF.out.below hb hBs.out)
      have HBB := Lib.hid (Nat.le_trans hBs.out hb.size)
      obtain ⟨nb, hnb⟩ : ∃ nb, ((bw ks ls).length + 7) / 8 = nb := ⟨_, rfl⟩
      rw [hnb] at hBy hcap
      rw [hnb]
      have HNB := Lib.hid hnb
      have HBY := Lib.hid hBy
      have HBIT := Lib.hid hPF_bit
      have hnbl : nb ≤ 20000 := by have := HLall.out; omega
      clear hb hBy hnb HPF hBs
      go_wp2
      go_loopw [12, 13] (fun a12 i wr => ∃ q t : Nat, q ≤ j ∧ t ≤ 100000 ∧ i = .int .i64 q ∧ a12 = .int .i64 (t : Int) ∧ Hid (t = (bw ks (ls.take q)).length) ∧ Hid (Below w4.heap.size w4 wr)) (fun _ i _ => j - (intOf i).toNat)
      case atStart => exact ⟨0, 0, Nat.zero_le _, by omega, rfl, rfl, Lib.hid (by rw [List.take_zero]; rfl), Lib.hid (Below.refl _ _)⟩
      case round =>
        obtain ⟨q, t, hq, ht5, rfl, rfl, ht, hbl⟩ := hrel
        by_cases hlt : q < j
        · have hql : q < ls.length := by rw [HLn.out]; exact hlt
          have HB2W : Hid (Below w2.heap.size w2 wr) := Lib.hid (HPB.out.bl.trans (hbl.out.mono HBB.out))
          have HBW : Hid (Below w.heap.size w wr) := Lib.hid (HB2.out.trans (HB2W.out.mono hB2w))
          obtain ⟨ad, rfl, hc⟩ := C_int_at (by rw [HLn.out]; exact Kd.C_below HV.out HBW.out) hql
          obtain ⟨x, hx⟩ : ∃ x, ls[q] = x := ⟨_, rfl⟩
          obtain ⟨m, hm, hml, hok⟩ := kd_ok HKS.out x
          obtain ⟨d, hd⟩ : ∃ d, kd ks x = d := ⟨_, rfl⟩
          have hkt := bw_take (ks := ks) hql
          have hks := bw_split (ks := ks) hql
          rw [hx, hd] at hkt hks
          rw [hd] at hok
          rw [hx] at hc
          obtain ⟨ad1', e1, hck⟩ := C_str_at (Kd.C_below HK.out HB2W.out) hml
          obtain rfl : ad1 = ad1' := Option.some.inj e1
          rw [Option.some.inj ((List.getElem?_eq_getElem hml).symm.trans hok.2.2.2.1)] at hck
          have hlen : (bw ks (ls.take q)).length + d.size ≤ (bw ks ls).length := by
            rw [hks, List.length_append, List.length_append, bitsOf_length]
            omega
          have hd1 := hok.2.1
          have hd2 := hok.2.2.1
          have hans : ansAt ks (kidx ks.length) bs nb (t : Int) = ⟨(m : Int), d.size, 0⟩ := by
            rw [ht.out]
            refine ans_code HKS.out.good HKS.out.pairs hok.2.2.2.1 hok.2.2.2.2.1 (pre := bw ks (ls.take q)) (post := bw ks (ls.drop (q + 1))) (fun j' => ?_) ?_
            · rw [HBIT.out j', ← hks]
            · have := HNB.out
              omega
          have hcut : ∀ e : Nat, t ≤ 8 * e → 8 * e < t + d.size → ansAt ks (kidx ks.length) (bs.take e) e (t : Int) = ⟨0, 0, 5⟩ := fun e h1 h2 => by
            have ht' := ht.out
            rw [ht'] at h1 h2 ⊢
            refine ans_more HKS.out.good HKS.out.pairs hok.2.2.2.1 hok.2.2.2.2.1 (pre := bw ks (ls.take q)) (post := bw ks (ls.drop (q + 1))) (fun j' hj' => ?_) h2 h1
            rw [← hks, ← HBIT.out j']
            unfold bitInt
            rw [List.getD_eq_getElem?_getD, List.getElem?_take_of_lt (by omega), ← List.getD_eq_getElem?_getD]
          have ht2 : t + d.size = (bw ks (ls.take (q + 1))).length := by
            rw [hkt, List.length_append, bitsOf_length, ← ht.out]
          have ht3 : t + d.size ≤ 100000 := by
            have h1 := HLall.out
            have h2 := ht.out
            omega
          have hend : t + d.size ≤ 8 * nb := by
            have h1 := HNB.out
            have h2 := ht.out
            omega
          have HM := Lib.hid hm
          have HOK := Lib.hid hok
          have HANS := Lib.hid hans
          have HCUT := Lib.hid hcut
          have HT2 := Lib.hid ht2
          have HTr := Lib.hid (HT.out.below HB2W.out)
          have hi1 : (m : Int) < (ks.length : Int) := by omega
          clear hx hd hm hok hkt hks hlen hans ht2 hcut e1
          go_wp2_with fail
          refine (pick_any x ks.length wr (by omega) (by omega)).mono ?_
          rw [HM.out]
          rintro e w' ⟨rfl, rfl⟩
          go_wp2_with fail
          refine (gets_yes Ab nb cb bs (t : Int) (m : Int) d.size 0 wr HTr.out (HBY.out.below hbl.out) (by omega) (by rw [HANS.out]) (by rw [HANS.out]) (by rw [HANS.out])).mono ?_
          rintro e w6 ⟨rfl, hb⟩
          have HB6 := Lib.hid (hbl.out.trans (hb.mono hbl.out.size))
          have hck6 : w6.cell? (ad1.add m) = some (.string d) := (hb.cell (World.block_lt_of_cell? _ _ hck)).trans hck
          have HTr6 := Lib.hid (HTr.out.below hb)
          clear hb hc hck
          obtain ⟨en, hen⟩ : ∃ en : Nat, (t + d.size - 1) / 8 = en := ⟨_, rfl⟩
          have hen1 : ((t : Int) + (d.size : Int) - 1).tdiv 8 = (en : Int) := by
            rw [Int.tdiv_eq_ediv_of_nonneg (by omega)]
            omega
          have s1 : IntKind.i64.wrap (en : Int) = (en : Int) := IntWalk.i64_in _ (by omega)
          by_cases hge : t ≤ 8 * en
          · have hge2 : (t : Int) ≤ (en : Int) * 8 := by omega
            have hen2 : (en : Int) ≤ (cb : Int) := by omega
            have hen3 : en ≤ nb := by omega
            have HA6 := Lib.hid (HCUT.out en hge (by omega))
            go_wp2_with fail
            refine (gets_yes Ab en cb (bs.take en) (t : Int) 0 0 5 w6 HTr6.out ((HBY.out.below HB6.out).take hen3) (by omega) (by rw [HA6.out]) (by rw [HA6.out]) (by rw [HA6.out])).mono ?_
            rintro e w7 ⟨rfl, hb⟩
            have HB7 := Lib.hid (HB6.out.trans (hb.mono HB6.out.size))
            have hck7 : w7.cell? (ad1.add m) = some (.string d) := (hb.cell (World.block_lt_of_cell? _ _ hck6)).trans hck6
            clear hb hck6
            go_wp2
            go_roundw
            case rel => exact ⟨q + 1, t + d.size, by omega, ht3, by go_num, by go_num, HT2, HB7⟩
            case measure => simp [intOf]; omega
          · have hge2 : ¬ (t : Int) ≤ (en : Int) * 8 := by omega
            go_wp2
            go_roundw
            case rel => exact ⟨q + 1, t + d.size, by omega, ht3, by go_num, by go_num, HT2, HB6⟩
            case measure => simp [intOf]; omega
        · obtain rfl : q = j := by omega
          have HBE : Hid (Below w.heap.size w wr) := Lib.hid (HB2.out.trans ((HPB.out.bl.trans (hbl.out.mono HBB.out)).mono hB2w))
          clear hlt hq
          go_wp2
          go_ret
          exact ⟨rfl, HBE.out⟩
end Go.Proofs.Ythjfigaalknoiaa
