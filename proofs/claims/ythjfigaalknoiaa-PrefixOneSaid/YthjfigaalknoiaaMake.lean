/- prefix.Make makes the tree of codes and numbers, or tells why there is none; for every row of texts and of numbers. -/
import Derived.Test.YthjfigaalknoiaaPut
import Derived.Test.YthjfigaalknoiaaContains
set_option linter.unusedVariables false
set_option linter.unusedSimpArgs false
namespace Go.Proofs.Ythjfigaalknoiaa
open Go.RowKit Go.Proofs.YthjfigaalknoiaaW.PrintWords Pt

theorem at_alloc (w : World) (o : Obj) {k : Nat} (h : k = w.heap.size) : (w.alloc o).heap[k]? = some o := by subst h; exact heap_alloc_new w o

def pairs (cs : List ByteArray) (vs : List Int) : List (List Bool × Int) := List.zipWith (fun s v => (bitsOf s, v)) cs vs
def told (cs : List ByteArray) (vs : List Int) : List (Int × ByteArray) := (cs.zip vs).foldl (fun M c => addM M c.2 c.1) []
def Bad (cs : List ByteArray) (vs : List Int) : Prop := cs.length ≠ vs.length ∨ cs.length = 0 ∨ 300 < cs.length ∨ cs.all isCode = false

structure MakePost (w : World) (cs : List ByteArray) (vs : List Int) (e : Ending) (w' : World) : Prop where
  bad : Bad cs vs → e = .returned (.tuple #[.pointer none, .int .i64 2]) ∧ w = w'
  form : ¬ Bad cs vs → Pt.build [Nd.empty] (pairs cs vs) = none → e = .returned (.tuple #[.pointer none, .int .i64 14]) ∧ Below w.heap.size w w'
  tree : ¬ Bad cs vs → ∀ ns, Pt.build [Nd.empty] (pairs cs vs) = some ns → ∃ p, e = .returned (.tuple #[.pointer (some ⟨p, 0, none⟩), .int .i64 0]) ∧ Below w.heap.size w w' ∧
    TreeOf w.heap.size p w' ns (told cs vs) cs.length ∧ Wf ns ∧ 0 < ns.length

theorem MakePost.bad_ {w : World} {cs : List ByteArray} {vs : List Int} (h : Bad cs vs) : MakePost w cs vs (.returned (.tuple #[.pointer none, .int .i64 2])) w :=
  ⟨fun _ => ⟨rfl, rfl⟩, fun h' => absurd h h', fun h' => absurd h h'⟩

theorem make_bad1 (A A' : Option Addr) (n c n' c' : Nat) (cs : List ByteArray) (vs : List Int) (w : World) (hn : cs.length = n) (hn' : vs.length = n') (h : n ≠ n') (hl : n ≤ 9223372036854775807) (hl' : n' ≤ 9223372036854775807) :
    Calls Try.prog 21 #[.slice A n c, .slice A' n' c'] w (MakePost w cs vs) := by
  have HB : Hid (Bad cs vs) := Lib.hid (.inl (by omega))
  clear hn hn'
  have b0 : ((n : Int) != (n' : Int)) = true := by rw [bne_iff_ne]; omega
  go_enter Try.func21, Try.ntmps21
  go_wp2
  go_ret2
  exact .bad_ HB.out

theorem make_bad2 (A A' : Option Addr) (n c c' : Nat) (cs : List ByteArray) (vs : List Int) (w : World) (hn : cs.length = n) (hl : n ≤ 9223372036854775807) (h : n = 0 ∨ 300 < n) :
    Calls Try.prog 21 #[.slice A n c, .slice A' n c'] w (MakePost w cs vs) := by
  have HB : Hid (Bad cs vs) := Lib.hid (by unfold Bad; omega)
  clear hn
  have b0 : ((n : Int) != (n : Int)) = false := by simp
  rcases h with h | h
  · subst h
    go_enter Try.func21, Try.ntmps21
    go_wp2
    go_ret2
    exact .bad_ HB.out
  · have b1 : ((n : Int) == 0) = false := by rw [beq_eq_false_iff_ne]; omega
    have b2 : (300 : Int) < (n : Int) := by omega
    go_enter Try.func21, Try.ntmps21
    go_wp2
    go_ret2
    exact .bad_ HB.out

theorem make_bad3 (A A' : Option Addr) (n c c' : Nat) (cs : List ByteArray) (vs : List Int) (w : World) (hC : Kd.string.C w A n cs) (hs : ∀ s ∈ cs, s.size ≤ maxLen) (h0 : 0 < n) (h1 : n ≤ 300) (h : cs.all isCode = false) :
    Calls Try.prog 21 #[.slice A n c, .slice A' n c'] w (MakePost w cs vs) := by
  have HB : Hid (Bad cs vs) := Lib.hid (.inr (.inr (.inr h)))
  have HC := Lib.hid hC
  have HS := Lib.hid hs
  have HA := Lib.hid h
  clear hC hs h
  have b0 : ((n : Int) != (n : Int)) = false := by simp
  have b1 : ((n : Int) == 0) = false := by rw [beq_eq_false_iff_ne]; omega
  have b2 : ¬ (300 : Int) < (n : Int) := by omega
  go_enter Try.func21, Try.ntmps21
  go_wp2_with (go_at_call 71; refine (contains_any _ _ _ _ _ HC.out HS.out).mono ?_; rintro e w' ⟨rfl, rfl⟩; rw [HA.out])
  go_ret2
  exact .bad_ HB.out

theorem pairs_drop {cs : List ByteArray} {vs : List Int} {k : Nat} (hk : k < cs.length) (hk' : k < vs.length) : (pairs cs vs).drop k = (bitsOf cs[k], vs[k]) :: (pairs cs vs).drop (k + 1) := by
  unfold pairs
  rw [List.drop_eq_getElem_cons (by simp; omega)]
  simp
theorem told_take {cs : List ByteArray} {vs : List Int} {k : Nat} (hk : k < cs.length) (hk' : k < vs.length) :
    ((cs.zip vs).take (k + 1)).foldl (fun M c => addM M c.2 c.1) [] = addM (((cs.zip vs).take k).foldl (fun M c => addM M c.2 c.1) []) vs[k] cs[k] := by
  rw [List.take_succ_eq_append_getElem (by simp; omega), List.foldl_append]
  simp

set_option maxHeartbeats 400000 in
theorem make_good (A A' : Option Addr) (n c c' : Nat) (cs : List ByteArray) (vs : List Int) (w : World) (hC : Kd.string.C w A n cs) (hV : (Kd.int .i64).C w A' n vs) (hs : ∀ s ∈ cs, s.size ≤ maxLen) (h0 : 0 < n) (h1 : n ≤ 300) (h : cs.all isCode = true) :
    Calls Try.prog 21 #[.slice A n c, .slice A' n c'] w (MakePost w cs vs) := by
  obtain rfl : cs.length = n := hC.1
  have HL : Hid (vs.length = cs.length) := Lib.hid hV.1
  have HNB : Hid (¬ Bad cs vs) := Lib.hid (by
    have := HL.out
    unfold Bad; rw [h]
    rintro (hb | hb | hb | hb)
    · omega
    · omega
    · omega
    · cases hb)
  have HC := Lib.hid hC
  have HV := Lib.hid hV
  have HS := Lib.hid hs
  have HA := Lib.hid h
  clear hC hs h hV
  have b0 : ((cs.length : Int) != (cs.length : Int)) = false := by simp
  have b1 : ((cs.length : Int) == 0) = false := by rw [beq_eq_false_iff_ne]; omega
  have b2 : ¬ (300 : Int) < (cs.length : Int) := by omega
  have hmm := @run_makeMap Try.prog
  go_enter Try.func21, Try.ntmps21
  go_wp2_with (go_at_call 71; refine (contains_any _ _ _ _ _ HC.out HS.out).mono ?_; rintro e w' ⟨rfl, rfl⟩; rw [HA.out])
  have hT0 : TreeOf w.heap.size (w.heap.size + 1 + 1) (((w.alloc (.cells #[.int .i64 0, .int .i64 0, .bool false, .int .i64 0] 91)).alloc (.map #[] 0)).alloc (.cells #[.slice (some ⟨w.heap.size, 0, none⟩) 1 1, .map (some (w.heap.size + 1)), .int .i64 0] 46)) [Nd.empty] [] 0 := by
    refine ⟨w.heap.size, 1, w.heap.size + 1, #[], 0, ⟨?_, ?_, ?_, by omega, by omega⟩, rfl⟩
    · exact at_alloc _ _ (by simp)
    · have := (((World.ownsRow_lit (base := w.heap.size) (e := 91) (size := 4) w #[.int .i64 0, .int .i64 0, .bool false, .int .i64 0] 1 (Nat.le_refl _) (by unfold maxLen; omega) rfl).alloc (.map #[] 0)).alloc (.cells #[.slice (some ⟨w.heap.size, 0, none⟩) 1 1, .map (some (w.heap.size + 1)), .int .i64 0] 46))
      exact this
    · exact (Below.heap_alloc _ _ _ (by simp)).trans (at_alloc _ _ (by simp))
  have hB0 : Below w.heap.size w (((w.alloc (.cells #[.int .i64 0, .int .i64 0, .bool false, .int .i64 0] 91)).alloc (.map #[] 0)).alloc (.cells #[.slice (some ⟨w.heap.size, 0, none⟩) 1 1, .map (some (w.heap.size + 1)), .int .i64 0] 46)) :=
    (((Below.refl _ w).alloc (Nat.le_refl _) _).alloc (by simp) _).alloc (by simp; omega) _
  have HT0 := Lib.hid hT0
  clear hT0
  go_loopw [35] (fun i wr => ∃ (k : Nat) (ns : List Nd), k ≤ cs.length ∧ i = .int .i64 k ∧ Hid (TreeOf w.heap.size (w.heap.size + 1 + 1) wr ns (((cs.zip vs).take k).foldl (fun M c => addM M c.2 c.1) []) k) ∧ Hid (Wf ns) ∧ 0 < ns.length ∧ ns.length ≤ 1 + 24 * k ∧
      Hid (Pt.build [Nd.empty] (pairs cs vs) = Pt.build ns ((pairs cs vs).drop k)) ∧ Below w.heap.size w wr) (fun i _ => cs.length - (intOf i).toNat)
  case atStart => exact ⟨0, [Nd.empty], Nat.zero_le _, rfl, HT0, Lib.hid wf_empty, by simp, by simp, Lib.hid (by simp), hB0⟩
  case round =>
    clear hB0
    obtain ⟨k, ns, hk, rfl, HT, HW, hn0, hnl, HBd, hb⟩ := hrel
    by_cases hlt : k < cs.length
    · have hlt' : k < vs.length := by have := HL.out; omega
      have hsz : cs[k].size ≤ maxLen := HS.out _ (List.getElem_mem hlt)
      have hcode : isCode cs[k] = true := by have := HA.out; rw [List.all_eq_true] at this; exact this _ (List.getElem_mem hlt)
      have hle : cs[k].size ≤ 24 := by unfold isCode at hcode; simp at hcode; omega
      obtain ⟨ad, rfl, hcell⟩ : ∃ ad, A = some ad ∧ wr.cell? (ad.add k) = some (.string cs[k]) := by
        obtain ⟨ad, e, hc⟩ := (Kd.C_below HC.out hb).2.2 (by omega)
        obtain ⟨c, h1, h2, h3⟩ := hc k cs[k] (List.getElem?_eq_getElem hlt)
        have h2' : c = [.string cs[k]] := h2
        have := h3 0 (.string cs[k]) (by rw [h2']; rfl)
        exact ⟨ad, e, by simpa [Kd.string, Kd.scalar] using this⟩
      obtain ⟨ad', rfl, hcell'⟩ : ∃ ad', A' = some ad' ∧ wr.cell? (ad'.add k) = some (.int .i64 vs[k]) := by
        obtain ⟨ad, e, hc⟩ := (Kd.C_below HV.out hb).2.2 (by omega)
        obtain ⟨c, h1, h2, h3⟩ := hc k vs[k] (List.getElem?_eq_getElem hlt')
        have h2' : c = [.int .i64 vs[k]] := h2
        have := h3 0 (.int .i64 vs[k]) (by rw [h2']; rfl)
        exact ⟨ad, e, by simpa [Kd.int, Kd.scalar] using this⟩
      have HPut : Hid (∀ ns' : Option (List Nd), Pt.put ns (bitsOf cs[k]) vs[k] = ns' → Pt.build [Nd.empty] (pairs cs vs) = ns'.bind fun m => Pt.build m ((pairs cs vs).drop (k + 1))) := Lib.hid (by
        intro ns' h'
        rw [HBd.out, pairs_drop hlt hlt', Pt.build, h'])
      have HTk := Lib.hid (told_take hlt hlt')
      have Hcode := Lib.hid hcode
      clear hcode
      go_wp2_with fail
      refine (put_any w.heap.size (w.heap.size + 1 + 1) ns _ k cs[k] vs[k] wr (by omega) (by omega) HT.out Hcode.out HW.out hn0 (by omega)).mono ?_
      rintro e w' hpost
      cases hput : Pt.put ns (bitsOf cs[k]) vs[k] with
      | none =>
        obtain ⟨rfl, hb'⟩ := hpost.1 hput
        have HF := Lib.hid (HPut.out _ hput)
        clear hpost hput hcell hcell'
        go_wp2
        go_ret2
        refine ⟨fun hh => absurd hh HNB.out, fun _ _ => ⟨rfl, hb.trans hb'⟩, fun _ ns2 h2 => ?_⟩
        have := HF.out
        rw [h2] at this; cases this
      | some ns' =>
        obtain ⟨rfl, hb', hT', hW', hl', h0'⟩ := hpost.2 ns' hput
        have HF := Lib.hid (HPut.out _ hput)
        have HT' := Lib.hid hT'
        have HW' := Lib.hid hW'
        clear hpost hput hcell hcell' hT' hW'
        go_wp2
        go_roundw
        case rel => exact ⟨k + 1, ns', by omega, by go_num, Lib.hid (by rw [HTk.out]; exact HT'.out), HW', h0', by omega, HF, hb.trans hb'⟩
        case measure => simp [intOf]; omega
    · obtain rfl : k = cs.length := by omega
      go_wp2
      go_ret2
      have hd : (pairs cs vs).drop cs.length = [] := List.drop_of_length_le (by unfold pairs; simp; omega)
      have hbd := HBd.out
      rw [hd] at hbd
      refine ⟨fun hh => absurd hh HNB.out, fun _ hh => ?_, fun _ ns2 h2 => ?_⟩
      · rw [hh] at hbd; cases hbd
      · rw [h2] at hbd
        have : ns2 = ns := Option.some.inj hbd
        subst this
        refine ⟨_, rfl, hb, ?_, HW.out, hn0⟩
        have ht := HT.out
        rw [List.take_of_length_le (by simp; omega)] at ht
        exact ht

theorem make_any (A A' : Option Addr) (n c n' c' : Nat) (cs : List ByteArray) (vs : List Int) (w : World) (hC : Kd.string.C w A n cs) (hV : (Kd.int .i64).C w A' n' vs) (hs : ∀ s ∈ cs, s.size ≤ maxLen) :
    Calls Try.prog 21 #[.slice A n c, .slice A' n' c'] w (MakePost w cs vs) := by
  by_cases h1 : n = n'
  · subst h1
    by_cases h2 : n = 0 ∨ 300 < n
    · exact make_bad2 A A' n c c' cs vs w hC.1 hC.2.1 h2
    · cases h : cs.all isCode with
      | false => exact make_bad3 A A' n c c' cs vs w hC hs (by omega) (by omega) h
      | true => exact make_good A A' n c c' cs vs w hC hV hs (by omega) (by omega) h
  · exact make_bad1 A A' n c n' c' cs vs w hC.1 hV.1 h1 hC.2.1 hV.2.1
end Go.Proofs.Ythjfigaalknoiaa
