/- The helpers of VectorBack: a text of 0 and 1, and others behind it, as bytes. -/
import Derived.Test.YthjfigaalknoiaaPack
import Derived.Test.YthjfigaalknoiaaVLaws
set_option linter.unusedVariables false
set_option linter.unusedSimpArgs false
namespace Go.Proofs.Ythjfigaalknoiaa
open Go.RowKit Go.Proofs.YthjfigaalknoiaaW.PrintWords Pt

/-- 'append(xs, ys...)', xs the call's own, ys any row, nil too. -/
theorem wpList_append_row {P : Program} {ops : Array Oper} {rest : List Oper} {o : Oper} {a : Act} {Q : Exit → Act → World → Prop} {W : World} (hgd : o.guard = none) (s x : Operand) (t e : TypeId) (z : Value) (bytes : Nat)
    (ho : o.op = .call { callee := .builtin .append, args := #[s, x], argTypes := #[t, t] }) (ht : P.underlying t = some (.slice e)) (hinfo : (P.info? e).map (fun i => (i.zero, i.size, i.bytes)) = some (some z, 1, bytes)) (hz : z.cells.size = 1)
    {B k : Nat} {v : Value} {xs : List Value} (hs : a.eval s = v) (hown : W.ownsRow B e 1 v k xs) (hB : B ≤ W.heap.size) (A : Option Addr) (n c : Nat) (hx : a.eval x = .slice A n c) (ys : List Value) (hR : Row W A n ys) (h1 : ∀ u ∈ ys, u.oneCell' = true) (hkn : k + n ≤ maxLen) (hbytes : (k + n) * bytes ≤ 140737488355328)
    (h : ∀ v' w1, W.grownBy w1 v.ownBlock → w1.ownsRow B e 1 v' (k + n) (xs ++ ys) → wpList P ops Q rest (a.put o.dst v') w1) : wpList P ops Q (o :: rest) a W := by
  obtain ⟨i0, hi, hzz⟩ := Option.map_eq_some_iff.1 hinfo
  simp only [Prod.mk.injEq] at hzz
  obtain ⟨hz0, hz1, hz2⟩ := hzz
  by_cases hn : 0 < n
  · obtain ⟨ad, rfl, hc⟩ := hR.2 hn
    exact wpList_append_own _ hgd s x t ho B e i0 z 1 bytes ht hi hz0 hz1 hz2 hz (by decide) v k xs hs hown ad n c ys hx (by rw [hR.1]; omega) hc h1 hkn hbytes hB (fun v' w1 h1 h2 _ => h v' w1 h2 h1)
  · obtain rfl : n = 0 := by omega
    obtain rfl : ys = [] := List.eq_nil_of_length_eq_zero hR.1
    refine wpList_plain hgd fun K hK => ?_
    have hrun : (Builtin.append_ #[t, t] o.type #[v, .slice A 0 c]).run P W = .ok v W := by
      rcases hown.2 with ⟨rfl, rfl⟩ | ⟨g, cap, cur, rfl, _, _, hcap, _⟩
      · cases A with
        | none => simp [Builtin.append_, run_underlying ht, sizeOf, typeInfo, hi, Builtin.lenOf, Builtin.firstCells, storeCells]
        | some ad => simp [Builtin.append_, run_underlying ht, sizeOf, typeInfo, hi, Builtin.lenOf, Builtin.firstCells, storeCells, loadCells, loadCellsFrom]
      · cases A with
        | none => simp [Builtin.append_, run_underlying ht, sizeOf, typeInfo, hi, Builtin.lenOf, Builtin.firstCells, storeCells, hcap]
        | some ad => simp [Builtin.append_, run_underlying ht, sizeOf, typeInfo, hi, Builtin.lenOf, Builtin.firstCells, storeCells, loadCells, loadCellsFrom, hcap]
    unfold Oper.wp execOp
    simp only [ho, resolve, invoke, builtin, Sem.run_bind, Sem.run_pure, Result.andThen_ok, List.map_toArray, List.map_cons, List.map_nil, hs, hx, hrun]
    exact hK _ _ (h _ _ (World.grownBy.refl W _) (by simpa using hown))

/-- A code's bits as numbers. -/
def nums (s : ByteArray) : List Int := (bitsOf s).map fun b => if b then 1 else 0
theorem nums_length (s : ByteArray) : (nums s).length = s.size := by unfold nums; rw [List.length_map, bitsOf_length]

theorem code67 (s : ByteArray) (w : World) (h : isCode s = true) (h11 : s.size ≤ 11) : Calls Try.prog 67 #[.string s] w fun e w' => e = .returned (.bool true) ∧ w = w' := by
  have hsz := isCode_size h
  have hs := hsz.1
  have HC := Lib.hid h
  clear h hsz
  go_enter Try.func67, Try.ntmps67
  go_wp2
  go_loop [3] (fun i => ∃ k : Nat, k ≤ s.size ∧ i = .int .i64 k) (fun i => s.size - (intOf i).toNat)
  case atStart => exact ⟨0, Nat.zero_le _, rfl⟩
  case round =>
    obtain ⟨k, hk, rfl⟩ := hrel
    by_cases hlt : k < s.size
    · rcases byte_bits HC.out hlt with ⟨h48, _⟩ | ⟨h49, _⟩
      · have b0 : ((s[k].toNat : Int) != 48) = false := by simp [h48]
        clear h48
        go_wp2
        go_round
        case rel => exact ⟨k + 1, by omega, by go_num⟩
        case measure => simp [intOf]; omega
      · have b0 : ((s[k].toNat : Int) != 48) = true := by simp [h49]
        have b1 : ((s[k].toNat : Int) != 49) = false := by simp [h49]
        clear h49
        go_wp2
        go_round
        case rel => exact ⟨k + 1, by omega, by go_num⟩
        case measure => simp [intOf]; omega
    · have h1 : (1 : Int) ≤ (s.size : Int) := by omega
      have h2 : (s.size : Int) ≤ 11 := by omega
      go_wp2
      go_ret
      exact ⟨rfl, rfl⟩

theorem step68 {w wr w1 : World} {v v' : Value} {k : Nat} {x : Int} {s : ByteArray} {o : Obj} (h : Below w.heap.size w wr ∧ wr.ownsRow w.heap.size 3 1 v k (((nums s).take k).map (Value.int .i64))) (hx : (nums s)[k]? = some x)
    (hg : (wr.alloc o).grownBy w1 v.ownBlock) (ho : w1.ownsRow w.heap.size 3 1 v' (k + 1) (((nums s).take k).map (Value.int .i64) ++ [.int .i64 x])) :
    Below w.heap.size w w1 ∧ w1.ownsRow w.heap.size 3 1 v' (k + 1) (((nums s).take (k + 1)).map (Value.int .i64)) := by
  obtain ⟨hk, rfl⟩ := List.getElem?_eq_some_iff.1 hx
  refine ⟨(below_alloc h.1 o).grown hg (Nat.le_trans h.1.size (by simp)) (fun k e => (h.2.lt k e).1), ?_⟩
  rw [List.take_succ_eq_append_getElem hk, List.map_append]
  exact ho
theorem nums_bit {s : ByteArray} {vs bs : List Int} {n : Nat} (h : ∀ j, bitInt bs j = if j < s.size + n ∧ ((nums s ++ vs).getD j 0) % 2 ≠ 0 then 1 else 0) : ∀ j, j < s.size → (bitsOf s)[j]? = some (bitAt bs j) := by
  intro j hj
  have hl : j < (bitsOf s).length := by rw [bitsOf_length]; exact hj
  have hn : (nums s ++ vs).getD j 0 = if (bitsOf s)[j] then 1 else 0 := by
    rw [List.getD_eq_getElem?_getD, List.getElem?_append_left (by rw [nums_length]; exact hj)]
    unfold nums
    rw [List.getElem?_map, List.getElem?_eq_getElem hl]; rfl
  have := h j
  rw [hn] at this
  rw [List.getElem?_eq_getElem hl]
  unfold bitAt
  rw [this]
  cases (bitsOf s)[j] with
  | true => rw [if_pos ⟨by omega, by decide⟩]; rfl
  | false => rw [if_neg (fun hh => hh.2 (by decide))]; rfl

set_option maxRecDepth 100000 in
set_option maxHeartbeats 1000000 in
theorem bytes68 (s : ByteArray) (A : Option Addr) (n c : Nat) (vs : List Int) (w : World) (h : isCode s = true) (hV : (Kd.int .i64).C w A n vs) (hn : n ≤ 60) :
    Calls Try.prog 68 #[.string s, .slice A n c] w fun e w' => ∃ g bs, e = .returned (.slice (some ⟨g, 0, none⟩) ((s.size + n + 7) / 8) ((s.size + n + 7) / 8)) ∧ Below w.heap.size w w' ∧ Bytes w' (some ⟨g, 0, none⟩) ((s.size + n + 7) / 8) bs ∧
      ∀ j, j < s.size → (bitsOf s)[j]? = some (bitAt bs j) := by
  have hsz := isCode_size h
  have hs1 := hsz.1
  have hs24 := hsz.2
  have HC := Lib.hid h
  have HV := Lib.hid hV
  clear h hsz hV
  go_enter Try.func68, Try.ntmps68
  go_wp2
  go_loopw [5, 6] (fun v i wr => ∃ k : Nat, k ≤ s.size ∧ i = .int .i64 k ∧ Hid (Below w.heap.size w wr ∧ wr.ownsRow w.heap.size 3 1 v k (((nums s).take k).map (Value.int .i64)))) (fun _ i _ => s.size - (intOf i).toNat)
  case atStart => exact ⟨0, Nat.zero_le _, rfl, Lib.hid ⟨Below.refl _ _, World.ownsRow_nil _ _ _ _⟩⟩
  case round =>
    obtain ⟨k, hk, rfl, hh⟩ := hrel
    by_cases hlt : k < s.size
    · rcases byte_bits HC.out hlt with ⟨h48, hb⟩ | ⟨h49, hb⟩
      · have hx : (nums s)[k]? = some 0 := by unfold nums; rw [List.getElem?_map, hb]; rfl
        have HX := Lib.hid hx
        clear hx hb
        have hk1 : k + 1 ≤ maxLen := by unfold maxLen; omega
        go_wp2_with (at_builtin; refine wpList_append_one (W := wr) rfl _ _ 23 3 _ 8 rfl Try.underlying23 info3 rfl (.int .i64 0) rfl rfl hh.out.2 rfl hh.out.1.size hk1 (by omega) ?_; intro v' w1 hg ho; have HO := Lib.hid ho; have HG := Lib.hid hg; clear ho hg)
        go_roundw
        case rel => exact ⟨k + 1, by omega, by go_num, Lib.hid (step68 hh.out HX.out HG.out HO.out)⟩
        case measure => simp [intOf]; omega
      · have hx : (nums s)[k]? = some 1 := by unfold nums; rw [List.getElem?_map, hb]; rfl
        have HX := Lib.hid hx
        clear hx hb
        have hk1 : k + 1 ≤ maxLen := by unfold maxLen; omega
        go_wp2_with (at_builtin; refine wpList_append_one (W := wr) rfl _ _ 23 3 _ 8 rfl Try.underlying23 info3 rfl (.int .i64 1) rfl rfl hh.out.2 rfl hh.out.1.size hk1 (by omega) ?_; intro v' w1 hg ho; have HO := Lib.hid ho; have HG := Lib.hid hg; clear ho hg)
        go_roundw
        case rel => exact ⟨k + 1, by omega, by go_num, Lib.hid (step68 hh.out HX.out HG.out HO.out)⟩
        case measure => simp [intOf]; omega
    · obtain rfl : k = s.size := by omega
      have HW : Hid (wr.ownsRow w.heap.size 3 1 u5 s.size ((nums s).map (Value.int .i64))) := Lib.hid (by
        have := hh.out.2
        rwa [List.take_of_length_le (by rw [nums_length]; exact Nat.le_refl _)] at this)
      have HVr := Lib.hid ((row_int HV.out).below hh.out.1)
      have hk1 : s.size + n ≤ maxLen := by unfold maxLen; omega
      go_wp2_with (at_builtin; refine wpList_append_row (W := wr) rfl _ _ 23 3 _ 8 rfl Try.underlying23 info3 rfl rfl HW.out hh.out.1.size A n c rfl _ HVr.out (fun u hu => by simp at hu; obtain ⟨s, _, rfl⟩ := hu; rfl) hk1 (by omega) ?_; intro v' w1 hg ho; obtain ⟨g, cap, rfl, hE, hlt'⟩ := ho.form (by omega); have HO := Lib.hid ho; have HG := Lib.hid hg; clear ho hg)
      have HB1 : Hid (Below w.heap.size w w1) := Lib.hid (hh.out.1.grown HG.out hh.out.1.size (fun k e => (HW.out.lt k e).1))
      have HC1 : Hid ((Kd.int .i64).C w1 (some ⟨g, 0, none⟩) (s.size + n) (nums s ++ vs)) := Lib.hid (by
        refine int_row ⟨?_, fun _ => ⟨_, rfl, fun j u hu => HO.out.cells (g := g) rfl j u (by rwa [← List.map_append])⟩⟩ (by omega)
        rw [List.length_map, List.length_append, nums_length, HV.out.1])
      refine (bits_any (some ⟨g, 0, none⟩) (s.size + n) cap (nums s ++ vs) w1 HC1.out (by omega)).mono ?_
      rintro e w2 ⟨bs, rfl, hb, hby, hbit⟩
      have HB2 := Lib.hid (below_step HB1.out hb)
      have HBy := Lib.hid hby
      have HBit := Lib.hid (nums_bit hbit)
      clear hb hby hbit
      go_wp2
      go_ret
      exact ⟨_, bs, rfl, HB2.out, HBy.out, HBit.out⟩
end Go.Proofs.Ythjfigaalknoiaa
