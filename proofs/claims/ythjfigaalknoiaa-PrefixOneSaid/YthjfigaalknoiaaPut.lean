/- (*prefix.Tree).put puts a code into a tree; what it leaves is what the plain tree's 'put' leaves. -/
import Derived.Test.YthjfigaalknoiaaTree
import Derived.Test.YthjfigaalknoiaaCode
import Derived.Test.YthjfigaalknoiaaMaps
import Derived.Test.YthjfigaalknoiaaEq
import Derived.Deep.RegionLaw
import Derived.Deep.RegionLawGrows
import Derived.BigRegion
import Derived.StillTailTactics
import Derived.Deep.DeepMust
namespace Go.Proofs.Ythjfigaalknoiaa
open Go.RowKit Go.Proofs.YthjfigaalknoiaaW.PrintWords

def StopHere (p : Prop) : Prop := p
theorem stopHere {p : Prop} (h : StopHere p) : p := h

def bitsOf (s : ByteArray) : List Bool := s.data.toList.map fun c => c == 49
open Pt

/-- A number's first text stays. -/
def addM (M : List (Int × ByteArray)) (k : Int) (s : ByteArray) : List (Int × ByteArray) := if (look M k).2 then M else M ++ [(k, s)]
def PutPost (B p : Nat) (w : World) (ns : List Nd) (M : List (Int × ByteArray)) (many : Int) (s : ByteArray) (num : Int) (e : Ending) (w' : World) : Prop :=
  (Pt.put ns (bitsOf s) num = none → e = .returned (.bool false) ∧ Below B w w') ∧
  (∀ ns', Pt.put ns (bitsOf s) num = some ns' → e = .returned (.bool true) ∧ Below B w w' ∧ TreeOf B p w' ns' (addM M num s) (many + 1) ∧ Wf ns' ∧ ns'.length ≤ ns.length + s.size ∧ 0 < ns'.length)

theorem PutPost.none_ {B p : Nat} {w w' : World} {ns : List Nd} {M : List (Int × ByteArray)} {many : Int} {s : ByteArray} {num : Int} (h : Pt.put ns (bitsOf s) num = none) (hb : Below B w w') : PutPost B p w ns M many s num (.returned (.bool false)) w' :=
  ⟨fun _ => ⟨rfl, hb⟩, fun ns' h' => by rw [h] at h'; cases h'⟩
theorem PutPost.some_ {B p : Nat} {w w' : World} {ns ns' : List Nd} {M : List (Int × ByteArray)} {many : Int} {s : ByteArray} {num : Int} (h : Pt.put ns (bitsOf s) num = some ns') (hb : Below B w w')
    (hT : TreeOf B p w' ns' (addM M num s) (many + 1)) (hw : Wf ns') (hl : ns'.length ≤ ns.length + s.size) (h0 : 0 < ns'.length) : PutPost B p w ns M many s num (.returned (.bool true)) w' :=
  ⟨fun h' => by (rw [h] at h'; cases h'), fun ns2 h' => by rw [h] at h'; cases h'; exact ⟨rfl, hb, hT, hw, hl, h0⟩⟩
theorem bitsOf_length (s : ByteArray) : (bitsOf s).length = s.size := by simp [bitsOf]

theorem info91 : (Try.prog.info? 91).map (fun i => (i.zero, i.size, i.bytes)) = some (some (.agg #[.int .i64 0, .int .i64 0, .bool false, .int .i64 0]), 4, 32) := by kernel_rfl

theorem byte_bits {s : ByteArray} (hs : isCode s = true) {k : Nat} (hk : k < s.size) : (s[k].toNat : Int) = 48 ∧ (bitsOf s)[k]? = some false ∨ (s[k].toNat : Int) = 49 ∧ (bitsOf s)[k]? = some true := by
  unfold isCode isBits at hs
  rw [Bool.and_eq_true, List.all_eq_true] at hs
  have h := hs.1 s[k] (by simp [ByteArray.getElem_eq_getElem_data])
  rw [Bool.or_eq_true, beq_iff_eq, beq_iff_eq] at h
  have e : (bitsOf s)[k]? = some (s[k] == 49) := by
    unfold bitsOf
    rw [List.getElem?_map, List.getElem?_eq_getElem (by simpa using hk)]
    simp [ByteArray.getElem_eq_getElem_data]
  rcases h with h | h
  · left; rw [e, h]; exact ⟨rfl, rfl⟩
  · right; rw [e, h]; exact ⟨rfl, rfl⟩

theorem append_step {B p g cap bm clock : Nat} {es : Array MapEntry} {w w1 : World} {ns : List Nd} {many : Int} {o : Obj} {g2 cap2 : Nat} (h : TreeAt B p g cap bm es clock w ns many) (hBw : B ≤ w.heap.size)
    (hg : (w.alloc o).grownBy w1 (some g)) (hown : w1.ownsRow B 91 4 (.slice (some ⟨g2, 0, none⟩) (ns.length + 1) cap2) (ns.length + 1) (flat ns ++ nd Nd.empty)) :
    w1.cell? ⟨p, 0, none⟩ = some (.slice (some ⟨g, 0, none⟩) ns.length cap) ∧ w1.frozen? ⟨p, 0, none⟩ = false ∧
    TreeAt B p g2 cap2 bm es clock (w1.setCell ⟨p, 0, none⟩ (.slice (some ⟨g2, 0, none⟩) (ns.length + 1) cap2)) (ns ++ [Nd.empty]) many ∧
    Below B w (w1.setCell ⟨p, 0, none⟩ (.slice (some ⟨g2, 0, none⟩) (ns.length + 1) cap2)) := by
  have hlt : ∀ k, k < w.heap.size → k ≠ g → w1.heap[k]? = w.heap[k]? := by
    intro k hk hne
    rw [hg.block k (by simp; omega) (fun e => hne (Option.some.inj e))]
    exact Below.heap_alloc _ _ _ hk
  have hp1 : w1.heap[p]? = w.heap[p]? := hlt p h.plt h.pg
  have hm1 : w1.heap[bm]? = w.heap[bm]? := hlt bm h.mlt (Ne.symm h.gm)
  refine ⟨?_, ?_, ?_, ?_⟩
  · rw [cell_of_heap (hp1.trans h.hp)]; rfl
  · exact free_of_heap (hp1.trans h.hp) 0
  · have := h.setRow (W := w1) (g' := g2) (cap' := cap2) (ns' := ns ++ [Nd.empty]) hp1 hm1 (by rw [List.length_append, flat_append, flat_one]; exact hown)
    simpa using this
  · obtain ⟨_, _, hBg⟩ := h.heapg
    exact ((((Below.refl _ _).alloc hBw o).grown hg (by simp; omega) (fun k e => by cases e; exact hBg))).setCell (p := ⟨p, 0, none⟩) h.Bp _

set_option maxHeartbeats 400000 in
set_option maxRecDepth 100000 in
theorem put_at (B p g cap bm clock : Nat) (es : Array MapEntry) (ns : List Nd) (M : List (Int × ByteArray)) (many : Int) (s : ByteArray) (num : Int) (w : World) (hE : Ents es M) (hm0 : 0 ≤ many) (hm1 : many ≤ 1000)
    (hT : TreeAt B p g cap bm es clock w ns many) (hs : isCode s = true) (hwf : Wf ns) (h0 : 0 < ns.length) (hlen : ns.length + s.size ≤ 1000000) :
    Calls Try.prog 74 #[.pointer (some ⟨p, 0, none⟩), .string s, .int .i64 num] w (PutPost B p w ns M many s num) := by
  have HT := Lib.hid hT
  have HEn := Lib.hid hE
  clear hE
  have HW := Lib.hid hwf
  have HS := Lib.hid hs
  clear hT hwf hs
  obtain ⟨i0, hi, hzz⟩ := Option.map_eq_some_iff.1 info91
  simp only [Prod.mk.injEq] at hzz
  obtain ⟨hz0, hz1, hz2⟩ := hzz
  have HI0 := Lib.hid hi
  have HZ0 := Lib.hid hz0
  have HZ1 := Lib.hid hz1
  have HZ2 := Lib.hid hz2
  clear hi hz0 hz1 hz2
  go_enter Try.func74, Try.ntmps74
  go_wp2
  go_loopw [7, 14] (fun x7 i wr => ∃ (k at_ g' cap' : Nat) (ns' : List Nd), k ≤ s.size ∧ i = .int .i64 k ∧ x7 = .int .i64 at_ ∧ at_ < ns'.length ∧ Hid (TreeAt B p g' cap' bm es clock wr ns' many) ∧ Hid (Wf ns') ∧ ns'.length ≤ ns.length + k ∧
      Hid (Pt.ins ns 0 (bitsOf s) = Pt.ins ns' at_ ((bitsOf s).drop k)) ∧ Below B w wr) (fun _ i _ => s.size - (intOf i).toNat)
  case atStart => exact ⟨0, 0, g, cap, ns, Nat.zero_le _, rfl, rfl, h0, HT, HW, by omega, Lib.hid (by simp), Below.refl _ _⟩
  case round =>
    obtain ⟨k, at_, g', cap', ns', hk, rfl, rfl, hat, HT', HW', hl', HI, hb⟩ := hrel
    by_cases hlt : k < s.size
    · obtain ⟨n, hn⟩ : ∃ n, ns'[at_]? = some n := ⟨_, List.getElem?_eq_getElem hat⟩
      have HN := Lib.hid hn
      clear hn
      have f0 := HT'.out.c0
      have f1 := HT'.out.free 0
      have f2 := HT'.out.row HN.out 2 (by omega)
      simp only [nd, List.getElem?_cons_succ, List.getElem?_cons_zero] at f2
      cases hleaf : n.leaf with
      | true =>
        rw [hleaf] at f2
        have HP : Hid (Pt.put ns (bitsOf s) num = none) := Lib.hid (by
          have hx : ∃ x, (bitsOf s)[k]? = some x := ⟨_, List.getElem?_eq_getElem (by rw [bitsOf_length]; exact hlt)⟩
          obtain ⟨x, hx⟩ := hx
          exact put_none_of (by rw [HI.out, drop_bit hx, ins_leaf HN.out hleaf]))
        go_wp2
        go_ret
        exact PutPost.none_ HP.out hb
      | false =>
        rw [hleaf] at f2
        rcases byte_bits HS.out hlt with ⟨hx, hbit⟩ | ⟨hx, hbit⟩
        · have HB := Lib.hid hbit
          clear hbit
          by_cases hz : n.z = 0
          · have f3 : wr.cell? ⟨g', at_ * 4, none⟩ = some (.int .i64 0) := by have := HT'.out.row HN.out 0 (by omega); simpa [nd, hz] using this
            have HZ := Lib.hid hz
            clear hz
            have hBw : B ≤ wr.heap.size := Nat.le_trans (Nat.le_of_lt (Nat.lt_of_le_of_lt HT'.out.Bp HT'.out.plt)) (Nat.le_refl _)
            go_wp2_with (at_builtin; refine wpList_append_own_at (wr.alloc (.cells #[.int .i64 0, .int .i64 0, .bool false, .int .i64 0] 91)) rfl _ _ 43 rfl B 91 i0 _ 4 32 Try.underlying43 HI0.out HZ0.out HZ1.out HZ2.out rfl (by decide) _ _ _ rfl (HT'.out.own.alloc _) ⟨wr.heap.size, 0, none⟩ 1 1 [.int .i64 0, .int .i64 0, .bool false, .int .i64 0] rfl rfl ?c1 ?c2 ?c3 ?c4 ?c5 ?_; (case c1 => exact World.news_of_block (cs := #[.int .i64 0, .int .i64 0, .bool false, .int .i64 0]) (t := 91) (fr := (0, 0)) (heap_alloc_new wr _)); (case c2 => intro u hu; simp at hu; rcases hu with rfl | rfl | rfl | rfl <;> rfl); (case c3 => unfold maxLen; omega); (case c4 => omega); (case c5 => simp; omega); intro v' w1 hown hg hnil hat2; obtain ⟨g2, cap2, rfl, _, _⟩ := hown.form (by omega); obtain ⟨q1, q2, q3, q4⟩ := append_step HT'.out hBw hg hown; have Q3 := Lib.hid q3; have Q4 := Lib.hid q4; clear q3 q4 hown hg hnil hat2)
            obtain ⟨W2, hW2⟩ : ∃ W2, w1.setCell ⟨p, 0, none⟩ (.slice (some ⟨g2, 0, none⟩) (ns'.length + 1) cap2) = W2 := ⟨_, rfl⟩
            rw [hW2] at Q3 Q4 ⊢
            clear hW2 q1 q2 f0 f1 f2 f3
            have e0 : W2.cell? ⟨p, 0, none⟩ = some (.slice (some ⟨g2, 0, none⟩) (ns'.length + 1) cap2) := by have := Q3.out.c0; simpa using this
            have e1 := Q3.out.free 0
            have e2 := Q3.out.gfree (at_ * 4)
            have HN2 : Hid ((ns' ++ [Nd.empty])[at_]? = some n) := Lib.hid (by rw [List.getElem?_append_left hat]; exact HN.out)
            have e3 : W2.cell? ⟨g2, at_ * 4, none⟩ = some (.int .i64 0) := by have := Q3.out.row HN2.out 0 (by omega); simpa [nd, HZ.out] using this
            have hat3 : (at_ : Int) < (ns'.length : Int) + 1 := by omega
            go_region
            have HBg : Hid (B ≤ g2) := Lib.hid (by obtain ⟨_, _, hh⟩ := Q3.out.heapg; exact hh)
            have Q5 : Hid (TreeAt B p g2 cap2 bm es clock (W2.setCell ⟨g2, at_ * 4, none⟩ (.int .i64 (ns'.length : Int))).drew ((ns' ++ [Nd.empty]).set at_ (n.setKid false ns'.length)) many) := Lib.hid ((Q3.out.setNode HN2.out (j := 0) (by omega) (by rfl)).drewN 1)
            have Q6 : Hid (Below B wr (W2.setCell ⟨g2, at_ * 4, none⟩ (.int .i64 (ns'.length : Int))).drew) := Lib.hid (below_drew (Q4.out.setCell (p := ⟨g2, _, none⟩) HBg.out _))
            obtain ⟨W3, hW3⟩ : ∃ W3, (W2.setCell ⟨g2, at_ * 4, none⟩ (.int .i64 (ns'.length : Int))).drew = W3 := ⟨_, rfl⟩
            rw [hW3] at Q5 Q6 ⊢
            clear hW3 e0 e1 e2 e3
            have HN3 : Hid (((ns' ++ [Nd.empty]).set at_ (n.setKid false ns'.length))[at_]? = some (n.setKid false ns'.length)) := Lib.hid (by rw [List.getElem?_set, if_pos rfl, if_pos (by simp; omega)])
            have e0 : W3.cell? ⟨p, 0, none⟩ = some (.slice (some ⟨g2, 0, none⟩) (ns'.length + 1) cap2) := by have := Q5.out.c0; simpa using this
            have e3 : W3.cell? ⟨g2, at_ * 4, none⟩ = some (.int .i64 (ns'.length : Int)) := by have := Q5.out.row HN3.out 0 (by omega); simpa [nd, Nd.setKid] using this
            have HE : Hid (Pt.ins ns 0 (bitsOf s) = Pt.ins ((ns' ++ [Nd.empty]).set at_ (n.setKid false ns'.length)) ns'.length ((bitsOf s).drop (k + 1))) := Lib.hid (by
              rw [HI.out, drop_bit HB.out, ins_new HN.out hleaf false _ HZ.out])
            have HWn := Lib.hid (HW'.out.new HN.out false)
            go_wp2
            go_roundw
            case rel => exact ⟨k + 1, ns'.length, g2, cap2, (ns' ++ [Nd.empty]).set at_ (n.setKid false ns'.length), by omega, by go_num, by go_num, by simp, Q5, HWn, by simp; omega, HE, hb.trans Q6.out⟩
            case measure => simp [intOf]; omega
          · have f3 : wr.cell? ⟨g', at_ * 4, none⟩ = some (.int .i64 (n.z : Int)) := by have := HT'.out.row HN.out 0 (by omega); simpa [nd] using this
            have b0 : ((n.z : Int) == 0) = false := by rw [beq_eq_false_iff_ne]; omega
            have HE : Hid (Pt.ins ns 0 (bitsOf s) = Pt.ins ns' n.z ((bitsOf s).drop (k + 1))) := Lib.hid (by
              rw [HI.out, drop_bit HB.out, ins_old HN.out hleaf false _ hz]; rfl)
            have hkl : n.z < ns'.length := HW'.out.kid HN.out false
            go_wp2
            go_roundw
            case rel => exact ⟨k + 1, n.z, g', cap', ns', by omega, by go_num, rfl, hkl, HT', HW', by omega, HE, hb⟩
            case measure => simp [intOf]; omega
        · have HB := Lib.hid hbit
          clear hbit
          by_cases hz : n.o = 0
          · have f3 : wr.cell? ⟨g', at_ * 4 + 1, none⟩ = some (.int .i64 0) := by have := HT'.out.row HN.out 1 (by omega); simpa [nd, hz] using this
            have HZ := Lib.hid hz
            clear hz
            have hBw : B ≤ wr.heap.size := Nat.le_trans (Nat.le_of_lt (Nat.lt_of_le_of_lt HT'.out.Bp HT'.out.plt)) (Nat.le_refl _)
            go_wp2_with (at_builtin; refine wpList_append_own_at (wr.alloc (.cells #[.int .i64 0, .int .i64 0, .bool false, .int .i64 0] 91)) rfl _ _ 43 rfl B 91 i0 _ 4 32 Try.underlying43 HI0.out HZ0.out HZ1.out HZ2.out rfl (by decide) _ _ _ rfl (HT'.out.own.alloc _) ⟨wr.heap.size, 0, none⟩ 1 1 [.int .i64 0, .int .i64 0, .bool false, .int .i64 0] rfl rfl ?c1 ?c2 ?c3 ?c4 ?c5 ?_; (case c1 => exact World.news_of_block (cs := #[.int .i64 0, .int .i64 0, .bool false, .int .i64 0]) (t := 91) (fr := (0, 0)) (heap_alloc_new wr _)); (case c2 => intro u hu; simp at hu; rcases hu with rfl | rfl | rfl | rfl <;> rfl); (case c3 => unfold maxLen; omega); (case c4 => omega); (case c5 => simp; omega); intro v' w1 hown hg hnil hat2; obtain ⟨g2, cap2, rfl, _, _⟩ := hown.form (by omega); obtain ⟨q1, q2, q3, q4⟩ := append_step HT'.out hBw hg hown; have Q3 := Lib.hid q3; have Q4 := Lib.hid q4; clear q3 q4 hown hg hnil hat2)
            obtain ⟨W2, hW2⟩ : ∃ W2, w1.setCell ⟨p, 0, none⟩ (.slice (some ⟨g2, 0, none⟩) (ns'.length + 1) cap2) = W2 := ⟨_, rfl⟩
            rw [hW2] at Q3 Q4 ⊢
            clear hW2 q1 q2 f0 f1 f2 f3
            have e0 : W2.cell? ⟨p, 0, none⟩ = some (.slice (some ⟨g2, 0, none⟩) (ns'.length + 1) cap2) := by have := Q3.out.c0; simpa using this
            have e1 := Q3.out.free 0
            have e2 := Q3.out.gfree (at_ * 4 + 1)
            have HN2 : Hid ((ns' ++ [Nd.empty])[at_]? = some n) := Lib.hid (by rw [List.getElem?_append_left hat]; exact HN.out)
            have e3 : W2.cell? ⟨g2, at_ * 4 + 1, none⟩ = some (.int .i64 0) := by have := Q3.out.row HN2.out 1 (by omega); simpa [nd, HZ.out] using this
            have hat3 : (at_ : Int) < (ns'.length : Int) + 1 := by omega
            go_region
            have HBg : Hid (B ≤ g2) := Lib.hid (by obtain ⟨_, _, hh⟩ := Q3.out.heapg; exact hh)
            have Q5 : Hid (TreeAt B p g2 cap2 bm es clock (W2.setCell ⟨g2, at_ * 4 + 1, none⟩ (.int .i64 (ns'.length : Int))).drew ((ns' ++ [Nd.empty]).set at_ (n.setKid true ns'.length)) many) := Lib.hid ((Q3.out.setNode HN2.out (j := 1) (by omega) (by rfl)).drewN 1)
            have Q6 : Hid (Below B wr (W2.setCell ⟨g2, at_ * 4 + 1, none⟩ (.int .i64 (ns'.length : Int))).drew) := Lib.hid (below_drew (Q4.out.setCell (p := ⟨g2, _, none⟩) HBg.out _))
            obtain ⟨W3, hW3⟩ : ∃ W3, (W2.setCell ⟨g2, at_ * 4 + 1, none⟩ (.int .i64 (ns'.length : Int))).drew = W3 := ⟨_, rfl⟩
            rw [hW3] at Q5 Q6 ⊢
            clear hW3 e0 e1 e2 e3
            have HN3 : Hid (((ns' ++ [Nd.empty]).set at_ (n.setKid true ns'.length))[at_]? = some (n.setKid true ns'.length)) := Lib.hid (by rw [List.getElem?_set, if_pos rfl, if_pos (by simp; omega)])
            have e0 : W3.cell? ⟨p, 0, none⟩ = some (.slice (some ⟨g2, 0, none⟩) (ns'.length + 1) cap2) := by have := Q5.out.c0; simpa using this
            have e3 : W3.cell? ⟨g2, at_ * 4 + 1, none⟩ = some (.int .i64 (ns'.length : Int)) := by have := Q5.out.row HN3.out 1 (by omega); simpa [nd, Nd.setKid] using this
            have HE : Hid (Pt.ins ns 0 (bitsOf s) = Pt.ins ((ns' ++ [Nd.empty]).set at_ (n.setKid true ns'.length)) ns'.length ((bitsOf s).drop (k + 1))) := Lib.hid (by
              rw [HI.out, drop_bit HB.out, ins_new HN.out hleaf true _ HZ.out])
            have HWn := Lib.hid (HW'.out.new HN.out true)
            go_wp2
            go_roundw
            case rel => exact ⟨k + 1, ns'.length, g2, cap2, (ns' ++ [Nd.empty]).set at_ (n.setKid true ns'.length), by omega, by go_num, by go_num, by simp, Q5, HWn, by simp; omega, HE, hb.trans Q6.out⟩
            case measure => simp [intOf]; omega
          · have f3 : wr.cell? ⟨g', at_ * 4 + 1, none⟩ = some (.int .i64 (n.o : Int)) := by have := HT'.out.row HN.out 1 (by omega); simpa [nd] using this
            have b0 : ((n.o : Int) == 0) = false := by rw [beq_eq_false_iff_ne]; omega
            have HE : Hid (Pt.ins ns 0 (bitsOf s) = Pt.ins ns' n.o ((bitsOf s).drop (k + 1))) := Lib.hid (by
              rw [HI.out, drop_bit HB.out, ins_old HN.out hleaf true _ hz]; rfl)
            have hkl : n.o < ns'.length := HW'.out.kid HN.out true
            go_wp2
            go_roundw
            case rel => exact ⟨k + 1, n.o, g', cap', ns', by omega, by go_num, rfl, hkl, HT', HW', by omega, HE, hb⟩
            case measure => simp [intOf]; omega
    · obtain rfl : k = s.size := by omega
      obtain ⟨n, hn⟩ : ∃ n, ns'[at_]? = some n := ⟨_, List.getElem?_eq_getElem hat⟩
      have HN := Lib.hid hn
      clear hn
      have HF : Hid (Pt.put ns (bitsOf s) num = Pt.fin ns' at_ num) := Lib.hid (put_of_ins (by rw [HI.out, List.drop_of_length_le (by rw [bitsOf_length]; omega)]; rfl))
      have f0 := HT'.out.c0
      have f1 := HT'.out.free 0
      have f2 := HT'.out.row HN.out 2 (by omega)
      simp only [nd, List.getElem?_cons_succ, List.getElem?_cons_zero] at f2
      cases hleaf : n.leaf with
      | true =>
        rw [hleaf] at f2
        have HP := Lib.hid (HF.out.trans (fin_none HN.out num (.inl hleaf)))
        go_wp2
        go_ret
        exact PutPost.none_ HP.out hb
      | false =>
        rw [hleaf] at f2
        by_cases hzo : n.z = 0 ∧ n.o = 0
        · have f3 : wr.cell? ⟨g', at_ * 4, none⟩ = some (.int .i64 0) := by have := HT'.out.row HN.out 0 (by omega); simpa [nd, hzo.1] using this
          have f4 : wr.cell? ⟨g', at_ * 4 + 1, none⟩ = some (.int .i64 0) := by have := HT'.out.row HN.out 1 (by omega); simpa [nd, hzo.2] using this
          have f5 : wr.cell? ⟨g', at_ * 4 + 3, none⟩ = some (.int .i64 n.num) := by have := HT'.out.row HN.out 3 (by omega); simpa [nd] using this
          have f6 := HT'.out.gfree (at_ * 4 + 2)
          have f7 := HT'.out.gfree (at_ * 4 + 3)
          have hat3 : (at_ : Int) < (ns'.length : Int) := by omega
          have HP := Lib.hid (HF.out.trans (fin_some HN.out num hleaf hzo.1 hzo.2))
          clear hzo
          have heq : ∀ W, (Op.equalIn 10000 89 (.agg #[.int .i64 0, .int .i64 0]) (.agg #[.int .i64 0, .int .i64 0])).run Try.prog W = .ok true W := fun W => eq89 0 0 W
          go_wp2
          go_region
          have HN4 : Hid ((ns'.set at_ { n with leaf := true })[at_]? = some { n with leaf := true }) := Lib.hid (by rw [List.getElem?_set, if_pos rfl, if_pos hat])
          have HBg : Hid (B ≤ g') := Lib.hid (by obtain ⟨_, _, hh⟩ := HT'.out.heapg; exact hh)
          have Q5 : Hid (TreeAt B p g' cap' bm es clock ((wr.setCell ⟨g', at_ * 4 + 2, none⟩ (.bool true)).setCell ⟨g', at_ * 4 + 3, none⟩ (.int .i64 num)).drew (ns'.set at_ { n with leaf := true, num := num }) many) := Lib.hid (by
            have h1 := HT'.out.setNode HN.out (j := 2) (n' := { n with leaf := true }) (v := .bool true) (by omega) (by rfl)
            have h2 := h1.setNode HN4.out (j := 3) (n' := { n with leaf := true, num := num }) (v := .int .i64 num) (by omega) (by rfl)
            rw [List.set_set] at h2
            exact h2.drewN 1)
          have Q6 : Hid (Below B w ((wr.setCell ⟨g', at_ * 4 + 2, none⟩ (.bool true)).setCell ⟨g', at_ * 4 + 3, none⟩ (.int .i64 num)).drew) := Lib.hid (below_drew ((hb.setCell (p := ⟨g', _, none⟩) HBg.out _).setCell (p := ⟨g', _, none⟩) HBg.out _))
          obtain ⟨W4, hW4⟩ : ∃ W4, ((wr.setCell ⟨g', at_ * 4 + 2, none⟩ (.bool true)).setCell ⟨g', at_ * 4 + 3, none⟩ (.int .i64 num)).drew = W4 := ⟨_, rfl⟩
          rw [hW4] at Q5 Q6 ⊢
          clear hW4 f0 f1 f2 f3 f4 f5 f6 f7 hat3 heq
          have g1 := Q5.out.c1
          have g2 := Q5.out.c2
          have g3 := Q5.out.free 2
          have g4 : p < W4.heap.size := Q5.out.plt
          have hm2 : Hid (∀ o : Obj, (W4.alloc o).heap[bm]? = some (.map es clock)) := Lib.hid (fun o => (Below.heap_alloc _ _ _ Q5.out.mlt).trans Q5.out.hm)
          have HQ : Hid (∀ o : Obj, TreeAt B p g' cap' bm es clock (W4.alloc o) (ns'.set at_ { n with leaf := true, num := num }) many ∧ Below B w (W4.alloc o)) := Lib.hid (fun o =>
            ⟨Q5.out.below ((Below.refl _ _).alloc (Nat.le_refl _) o), Q6.out.alloc (Nat.le_trans Q5.out.Bp (Nat.le_of_lt g4)) o⟩)
          have HWn := Lib.hid (HW'.out.leafed HN.out num)
          cases hlk : (look M num).2 with
          | true =>
            go_wp2_with (at_lookup; refine wpList_lookup_run rfl _ _ 44 true rfl _ _ _ rfl rfl (run_look Q5.out.hm HEn.out num) ?_; rw [hlk])
            go_ret
            refine PutPost.some_ HP.out ?_ ?_ HWn.out (by rw [List.length_set]; exact hl') (by rw [List.length_set]; omega)
            · exact (Q6.out.setCell (p := ⟨p, 2, none⟩) Q5.out.Bp _).alloc (Nat.le_trans Q5.out.Bp (Nat.le_of_lt (Q5.out.setMany (many + 1)).plt)) _
            · refine ⟨_, _, _, _, _, (Q5.out.setMany (many + 1)).below ((Below.refl _ _).alloc (Nat.le_refl _) _), ?_⟩
              unfold addM; rw [hlk]; exact HEn.out
          | false =>
            have k2 : ∀ o, ((W4.alloc o).putObj bm (.map (es.push { key := .int .i64 num, val := .agg #[.string s], born := clock }) (clock + 1))).cell? ⟨p, 2, none⟩ = some (.int .i64 many) := fun o => (HQ.out o).1.putMap.c2
            have k3 : ∀ o, ((W4.alloc o).putObj bm (.map (es.push { key := .int .i64 num, val := .agg #[.string s], born := clock }) (clock + 1))).frozen? ⟨p, 2, none⟩ = false := fun o => (HQ.out o).1.putMap.free 2
            go_wp2_with (first | (at_lookup; refine wpList_lookup_run rfl _ _ 44 true rfl _ _ _ rfl rfl (run_look Q5.out.hm HEn.out num) ?_; rw [hlk]) | (at_mapUpdate; refine wpList_mapUpdate_run rfl _ _ _ 44 rfl _ _ _ rfl rfl rfl (run_put (hm2.out _) HEn.out num s hlk) ?_))
            go_ret
            refine PutPost.some_ HP.out ?_ ?_ HWn.out (by rw [List.length_set]; exact hl') (by rw [List.length_set]; omega)
            · exact (below_putObj (HQ.out _).2 Q5.out.Bm _).setCell (p := ⟨p, 2, none⟩) Q5.out.Bp _
            · refine ⟨_, _, _, _, _, ((HQ.out _).1.putMap).setMany _, ?_⟩
              unfold addM; rw [hlk]; exact HEn.out.push num s clock
        · have f3 : wr.cell? ⟨g', at_ * 4, none⟩ = some (.int .i64 (n.z : Int)) := by have := HT'.out.row HN.out 0 (by omega); simpa [nd] using this
          have f4 : wr.cell? ⟨g', at_ * 4 + 1, none⟩ = some (.int .i64 (n.o : Int)) := by have := HT'.out.row HN.out 1 (by omega); simpa [nd] using this
          have heq : ∀ W, (Op.equalIn 10000 89 (.agg #[.int .i64 n.z, .int .i64 n.o]) (.agg #[.int .i64 0, .int .i64 0])).run Try.prog W = .ok false W := fun W => by
            rw [eq89]
            have : ((n.z : Int) == 0 && (n.o : Int) == 0) = false := by
              rw [Bool.and_eq_false_iff]; simp; omega
            rw [this]
          have HP := Lib.hid (HF.out.trans (fin_none HN.out num (.inr (by omega))))
          clear hzo
          go_wp2
          go_ret
          exact PutPost.none_ HP.out hb

theorem put_any (B p : Nat) (ns : List Nd) (M : List (Int × ByteArray)) (many : Int) (s : ByteArray) (num : Int) (w : World) (hm0 : 0 ≤ many) (hm1 : many ≤ 1000)
    (hT : TreeOf B p w ns M many) (hs : isCode s = true) (hwf : Wf ns) (h0 : 0 < ns.length) (hlen : ns.length + s.size ≤ 1000000) :
    Calls Try.prog 74 #[.pointer (some ⟨p, 0, none⟩), .string s, .int .i64 num] w (PutPost B p w ns M many s num) := by
  obtain ⟨g, cap, bm, es, clock, hT, hE⟩ := hT
  exact put_at B p g cap bm clock es ns M many s num w hE hm0 hm1 hT hs hwf h0 hlen
end Go.Proofs.Ythjfigaalknoiaa
