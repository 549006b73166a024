/- bits.Pen: bits that are written, one behind the other. -/
import Derived.Test.YthjfigaalknoiaaPack
import Derived.Test.YthjfigaalknoiaaTwo
import Derived.StillTailTactics
import Derived.BigRegion
set_option linter.unusedVariables false
set_option linter.unusedSimpArgs false
namespace Go.Proofs.Ythjfigaalknoiaa
open Go.RowKit Go.Proofs.YthjfigaalknoiaaW.PrintWords

/-- A pen lies at p; these bits were written. -/
structure PenAt (B : Nat) (w0 W : World) (p : Nat) (l : List Bool) (v : Value) (bs : List Int) : Prop where
  bl : Below B w0 W
  far : B ≤ p
  hp : W.heap[p]? = some (.cells #[v, .int .i64 (l.length : Int), .bool true] 112 (0, 0))
  own : W.ownsRow B 5 1 v ((l.length + 7) / 8) (bs.map (Value.int .u8))
  rng : ∀ b ∈ bs, 0 ≤ b ∧ b < 256
  len : bs.length = (l.length + 7) / 8
  bit : ∀ j, bitInt bs j = if l.getD j false then 1 else 0

theorem newpen_any (w : World) : Calls Try.prog 49 #[] w fun e w' => e = .returned (.pointer (some ⟨w.heap.size, 0, none⟩)) ∧ PenAt w.heap.size w w' w.heap.size [] (.slice none 0 0) [] := by
  go_enter Try.func49, Try.ntmps49
  go_wp2
  go_ret
  refine ⟨rfl, below_alloc (Below.refl _ _) _, Nat.le_refl _, at_alloc _ _ rfl, World.ownsRow_nil _ _ _ _, by simp, rfl, fun j => by simp [bitInt]⟩
theorem pnone_any (p : Nat) (w : World) (h : w.cell? ⟨p, 2, none⟩ = some (.bool true)) : Calls Try.prog 86 #[.pointer (some ⟨p, 0, none⟩)] w fun e w' => e = .returned (.bool false) ∧ w = w' := by
  go_enter Try.func86, Try.ntmps86
  go_wp2
  go_ret
  exact ⟨rfl, rfl⟩
theorem pfull_any (p : Nat) (m n : Int) (w : World) (h : w.cell? ⟨p, 1, none⟩ = some (.int .i64 m)) (h0 : 0 ≤ m) (h1 : m ≤ 100000) (h2 : 0 ≤ n) (h3 : n ≤ 100000) : Calls Try.prog 87 #[.pointer (some ⟨p, 0, none⟩), .int .i64 n] w fun e w' => e = .returned (.bool false) ∧ w = w' := by
  have hle : decide ((16777216 : Int) < m + n) = false := by simp; omega
  go_enter Try.func87, Try.ntmps87
  go_wp2
  go_ret
  exact ⟨rfl, rfl⟩
theorem plen_any (p : Nat) (m : Int) (w : World) (h : w.cell? ⟨p, 1, none⟩ = some (.int .i64 m)) (h2 : w.cell? ⟨p, 2, none⟩ = some (.bool true)) : Calls Try.prog 70 #[.pointer (some ⟨p, 0, none⟩)] w fun e w' => e = .returned (.int .i64 m) ∧ w = w' := by
  go_enter Try.func70, Try.ntmps70
  go_wp2_with (go_at_call 86; refine (pnone_any _ _ h2).mono ?_; rintro e w' ⟨rfl, rfl⟩)
  go_ret
  exact ⟨rfl, rfl⟩
set_option maxRecDepth 100000 in
set_option maxHeartbeats 1000000 in
/-- The bit goes into a byte that is there. -/
theorem pwrite_in (p g n c k q r : Nat) (x b : Int) (w : World) (h0 : w.cell? ⟨p, 0, none⟩ = some (.slice (some ⟨g, 0, none⟩) n c)) (h1 : w.cell? ⟨p, 1, none⟩ = some (.int .i64 (k : Int)))
    (hq : (k : Int) / 8 = (q : Int)) (hr : (k : Int) % 8 = (r : Int)) (hr0 : ((r : Int) == 0) = false) (hr7 : (r : Int) ≤ 7)
    (hg : w.cell? ⟨g, q, none⟩ = some (.int .u8 b)) (f1 : w.frozen? ⟨p, 1, none⟩ = false) (fg : w.frozen? ⟨g, q, none⟩ = false)
    (hk : (k : Int) ≤ 100000) (hn : (q : Int) < (n : Int)) (hx : x = 0 ∨ x = 1) (b2 : Int) (hor : bits .or .u8 b (IntKind.u8.wrap (x * 2 ^ (7 - r))) = b2) (hpg : ¬ p = g) (hgp : ¬ g = p) :
    Calls Try.prog 88 #[.pointer (some ⟨p, 0, none⟩), .int .i64 x] w fun e w' => e = .returned (.tuple #[]) ∧ w' = ((w.setCell ⟨g, q, none⟩ (.int .u8 b2)).setCell ⟨p, 1, none⟩ (.int .i64 ((k : Int) + 1))).drew := by
  have s1 : IntKind.i64.wrap (q : Int) = (q : Int) := IntWalk.i64_in _ (by omega)
  have s2 : IntKind.i64.wrap (r : Int) = (r : Int) := IntWalk.i64_in _ (by omega)
  have s3 : IntKind.i64.wrap (7 - (r : Int)) = 7 - (r : Int) := IntWalk.i64_in _ (by omega)
  have s4 : (0 : Int) ≤ 7 - (r : Int) := by omega
  have s5 : IntKind.u8.wrap x = x := by rcases hx with rfl | rfl <;> rfl
  have ht : (k : Int).tmod 8 = (r : Int) := by rw [Int.tmod_eq_emod_of_nonneg (by omega)]; exact hr
  go_enter Try.func88, Try.ntmps88
  go_wp2
  go_still_tail 22, (by kernel_rfl)
  go_wp2
  go_end0
  exact ⟨rfl, rfl⟩
set_option maxRecDepth 100000 in
set_option maxHeartbeats 1000000 in
/-- The bit opens a byte. -/
theorem pwrite_new (p k q : Nat) (x : Int) (B : Nat) (v : Value) (xs : List Value) (w : World) (hp : w.heap[p]? = some (.cells #[v, .int .i64 (k : Int), .bool true] 112 (0, 0)))
    (hq : (k : Int) / 8 = (q : Int)) (hr : (k : Int) % 8 = 0) (hown : w.ownsRow B 5 1 v q xs) (hB : B ≤ w.heap.size)
    (hk : (k : Int) ≤ 100000) (hx : x = 0 ∨ x = 1) (b2 : Int) (hor : bits .or .u8 0 (IntKind.u8.wrap (x * 2 ^ 7)) = b2) :
    Calls Try.prog 88 #[.pointer (some ⟨p, 0, none⟩), .int .i64 x] w fun e w' => e = .returned (.tuple #[]) ∧ ∃ w1 g c, (w.alloc (.cells #[.int .u8 0] 5)).grownBy w1 v.ownBlock ∧ w1.ownsRow B 5 1 (.slice (some ⟨g, 0, none⟩) (q + 1) c) (q + 1) (xs ++ [.int .u8 0]) ∧ p ≠ g ∧
      w' = (((w1.setCell ⟨p, 0, none⟩ (.slice (some ⟨g, 0, none⟩) (q + 1) c)).setCell ⟨g, q, none⟩ (.int .u8 b2)).setCell ⟨p, 1, none⟩ (.int .i64 ((k : Int) + 1))).drew := by
  have s1 : IntKind.i64.wrap (q : Int) = (q : Int) := IntWalk.i64_in _ (by omega)
  have s3 : IntKind.i64.wrap 7 = 7 := rfl
  have s5 : IntKind.u8.wrap x = x := by rcases hx with rfl | rfl <;> rfl
  have ht : (k : Int).tmod 8 = 0 := by rw [Int.tmod_eq_emod_of_nonneg (by omega)]; exact hr
  have h0 : w.cell? ⟨p, 0, none⟩ = some v := by rw [cell_of_heap hp]; rfl
  have h1 : w.cell? ⟨p, 1, none⟩ = some (.int .i64 (k : Int)) := by rw [cell_of_heap hp]; rfl
  have hplt : p < w.heap.size := (Array.getElem?_eq_some_iff.1 hp).1
  have hne : some p ≠ v.ownBlock := own_ne hown hp (by intro cur fz h; injection h with _ h2 _; exact absurd h2 (by decide))
  have HO := Lib.hid hown
  have HP := Lib.hid hp
  have HN := Lib.hid hne
  have hq1 : q + 1 ≤ 9223372036854775807 := by omega
  clear hown hp hne
  go_enter Try.func88, Try.ntmps88
  go_wp2_with (at_builtin; refine wpList_append_one (W := w) rfl _ _ 24 5 _ 1 rfl Try.underlying24 info5 rfl (.int .u8 0) rfl rfl HO.out rfl hB hq1 (by omega) ?_; intro v1 w1 hg1 ho1; obtain ⟨g, c, rfl, hBg, _⟩ := ho1.form (by omega); have hw1 : w1.heap[p]? = some (.cells #[v, .int .i64 (k : Int), .bool true] 112 (0, 0)) := (hg1.block p (by simp; omega) HN.out).trans (at_old HP.out); have HW1 := Lib.hid hw1; have HG1 := Lib.hid hg1; have HO1 := Lib.hid ho1; have k0 : w1.cell? ⟨p, 0, none⟩ = some v := (by rw [cell_of_heap hw1]; rfl); have k1 : w1.frozen? ⟨p, 0, none⟩ = false := free_of_heap hw1 0; clear hg1 ho1 hw1)
  have hgp : g ≠ p := fun h => by
    have := own_ne HO1.out HW1.out (by intro cur fz h; injection h with _ h2 _; exact absurd h2 (by decide))
    exact this (by rw [← h]; rfl)
  have hpg : p ≠ g := fun h => hgp h.symm
  obtain ⟨w2, hw2⟩ : ∃ w2, w1.setCell ⟨p, 0, none⟩ (.slice (some ⟨g, 0, none⟩) (q + 1) c) = w2 := ⟨_, rfl⟩
  have hp2 : w2.heap[p]? = some (.cells #[.slice (some ⟨g, 0, none⟩) (q + 1) c, .int .i64 (k : Int), .bool true] 112 (0, 0)) := by
    rw [← hw2]; exact heap_setCell_same (a := ⟨p, 0, none⟩) HW1.out rfl
  have hg2 : w2.heap[g]? = w1.heap[g]? := by rw [← hw2]; exact Below.heap_setCell w1 ⟨p, 0, none⟩ _ g hgp
  have e0 : w2.cell? ⟨p, 0, none⟩ = some (.slice (some ⟨g, 0, none⟩) (q + 1) c) := by rw [cell_of_heap hp2]; rfl
  have e1 : w2.cell? ⟨p, 1, none⟩ = some (.int .i64 (k : Int)) := by rw [cell_of_heap hp2]; rfl
  have f1 : w2.frozen? ⟨p, 1, none⟩ = false := free_of_heap hp2 1
  have eg : w2.cell? ⟨g, q, none⟩ = some (.int .u8 0) := by
    rw [World.cell?_of_block (a := ⟨g, q, none⟩) hg2, HO1.out.cellAt q (by omega), List.getElem?_append_right (by have := HO.out.1; omega)]
    have := HO.out.1
    simp [this]
  have fg : w2.frozen? ⟨g, q, none⟩ = false := by
    rw [World.frozen?_of_block (a := ⟨g, q, none⟩) hg2]; exact HO1.out.frozenAt _
  have HW2 := Lib.hid hw2
  rw [hw2]
  clear hw2 hp2 hg2 k0 k1 h0 h1
  have q3 : (q : Int) < (q : Int) + 1 := by omega
  go_still_tail 22, (by kernel_rfl)
  go_wp2
  go_end0
  have hb2 : bits .or .u8 0 (x * 128) = b2 := by rw [← hor]; rcases hx with rfl | rfl <;> rfl
  exact ⟨rfl, w1, g, c, HG1.out, HO1.out, hpg, by rw [HW2.out, hb2]⟩

theorem or_pen : ∀ b : Fin 256, ∀ r : Fin 8, bits .or .u8 ((b.1 : Nat) : Int) (IntKind.u8.wrap (1 * 2 ^ (7 - r.1))) = orv b.1 r.1 := by decide +kernel
theorem or_pen0 : ∀ b : Fin 256, ∀ r : Fin 8, bits .or .u8 ((b.1 : Nat) : Int) (IntKind.u8.wrap (0 * 2 ^ (7 - r.1))) = b.1 := by decide +kernel
/-- What a byte is behind a bit. -/
def orx (b : Int) (r : Nat) (x : Bool) : Int := if x then orv b r else b
theorem or_penx {b : Int} {r : Nat} (h0 : 0 ≤ b) (h1 : b < 256) (hr : r < 8) (x : Bool) : bits .or .u8 b (IntKind.u8.wrap ((if x then 1 else 0) * 2 ^ (7 - r))) = orx b r x := by
  obtain ⟨f, rfl⟩ := fin_of h0 h1
  cases x with
  | true => exact or_pen f ⟨r, hr⟩
  | false => exact or_pen0 f ⟨r, hr⟩
theorem orx_range {b : Int} {r : Nat} (h0 : 0 ≤ b) (h1 : b < 256) (hr : r < 8) (x : Bool) : 0 ≤ orx b r x ∧ orx b r x < 256 := by
  cases x with
  | true =>
    obtain ⟨f, rfl⟩ := fin_of h0 h1
    exact orv_range f ⟨r, hr⟩
  | false => exact ⟨h0, h1⟩
/-- The bits behind a bit that was written at the end. -/
theorem pen_bits {l : List Bool} {bs : List Int} (hl : l.length / 8 < bs.length) (hr : ∀ b ∈ bs, 0 ≤ b ∧ b < 256) (hb : ∀ j, bitInt bs j = if l.getD j false then 1 else 0) (x : Bool) :
    ∀ j, bitInt (bs.set (l.length / 8) (orx (bs.getD (l.length / 8) 0) (l.length % 8) x)) j = if (l ++ [x]).getD j false then 1 else 0 := by
  intro j
  have hold := hb j
  have hg : (l ++ [x]).getD j false = if j = l.length then x else l.getD j false := by
    rw [List.getD_eq_getElem?_getD, List.getElem?_append]
    by_cases h1 : j < l.length
    · rw [if_pos h1, if_neg (by omega), List.getD_eq_getElem?_getD]
    · rw [if_neg h1]
      by_cases h2 : j = l.length
      · rw [if_pos h2, h2, Nat.sub_self]; rfl
      · rw [if_neg h2, List.getD_eq_getElem?_getD, List.getElem?_eq_none (by simp; omega), List.getElem?_eq_none (by omega)]
  have hlast : l.getD l.length false = false := by rw [List.getD_eq_getElem?_getD, List.getElem?_eq_none (Nat.le_refl _)]; rfl
  rw [hg]
  cases x with
  | false =>
    have hs : bs.set (l.length / 8) (orx (bs.getD (l.length / 8) 0) (l.length % 8) false) = bs := by
      show bs.set (l.length / 8) (bs.getD (l.length / 8) 0) = bs
      rw [List.getD_eq_getElem?_getD, List.getElem?_eq_getElem hl]
      exact List.set_getElem_self hl
    rw [hs, hold]
    by_cases h2 : j = l.length
    · rw [if_pos h2, h2, hlast]
    · rw [if_neg h2]
  | true =>
    have hbb := hr bs[l.length / 8] (List.getElem_mem hl)
    obtain ⟨f, hf⟩ := fin_of hbb.1 hbb.2
    have hgd : bs.getD (l.length / 8) 0 = (f.1 : Int) := by rw [List.getD_eq_getElem?_getD, List.getElem?_eq_getElem hl, hf]; rfl
    by_cases e8 : j / 8 = l.length / 8
    · have hnew : bitInt (bs.set (l.length / 8) (orx (bs.getD (l.length / 8) 0) (l.length % 8) true)) j = (orv (f.1 : Int) (l.length % 8) / 2 ^ (7 - j % 8)) % 2 := by
        unfold bitInt
        rw [e8, List.getD_eq_getElem?_getD, List.getElem?_set_self hl, hgd]
        rfl
      rw [hnew, orv_bit f ⟨l.length % 8, by omega⟩ ⟨j % 8, by omega⟩]
      by_cases e : j = l.length
      · rw [if_pos (by show j % 8 = l.length % 8; omega), if_pos e]; rfl
      · have hne : ¬ j % 8 = l.length % 8 := by omega
        rw [if_neg hne, if_neg e]
        have : (f.1 : Int) / 2 ^ (7 - j % 8) % 2 = bitInt bs j := by unfold bitInt; rw [e8, hgd]
        exact this.trans hold
    · have hnew : bitInt (bs.set (l.length / 8) (orx (bs.getD (l.length / 8) 0) (l.length % 8) true)) j = bitInt bs j := by
        unfold bitInt
        rw [List.getD_eq_getElem?_getD, List.getElem?_set_ne (fun hh => e8 hh.symm), ← List.getD_eq_getElem?_getD]
      have e : j ≠ l.length := fun hh => e8 (by rw [hh])
      rw [hnew, hold, if_neg e]
theorem set_range {bs : List Int} {i : Nat} {v : Int} (hr : ∀ b ∈ bs, 0 ≤ b ∧ b < 256) (hv : 0 ≤ v ∧ v < 256) : ∀ b ∈ bs.set i v, 0 ≤ b ∧ b < 256 := by
  intro b hb
  rcases List.mem_or_eq_of_mem_set hb with h1 | rfl
  · exact hr b h1
  · exact hv

theorem PenAt.cells {B : Nat} {w0 W : World} {p : Nat} {l : List Bool} {v : Value} {bs : List Int} (h : PenAt B w0 W p l v bs) : W.cell? ⟨p, 0, none⟩ = some v ∧ W.cell? ⟨p, 1, none⟩ = some (.int .i64 (l.length : Int)) ∧ W.cell? ⟨p, 2, none⟩ = some (.bool true) :=
  ⟨by rw [cell_of_heap h.hp]; rfl, by rw [cell_of_heap h.hp]; rfl, by rw [cell_of_heap h.hp]; rfl⟩
theorem PenAt.ne {B : Nat} {w0 W : World} {p : Nat} {l : List Bool} {v : Value} {bs : List Int} (h : PenAt B w0 W p l v bs) : some p ≠ v.ownBlock :=
  own_ne h.own h.hp (by intro cur fz h; injection h with _ h2 _; exact absurd h2 (by decide))
theorem PenAt.below {B : Nat} {w0 W W' : World} {p : Nat} {l : List Bool} {v : Value} {bs : List Int} (h : PenAt B w0 W p l v bs) (hb : Below W.heap.size W W') (hB : B ≤ W.heap.size) : PenAt B w0 W' p l v bs :=
  ⟨h.bl.trans (hb.mono hB), h.far, (hb.block _ (Array.getElem?_eq_some_iff.1 h.hp).1).trans h.hp, own_move h.own (fun k hk => hb.block _ (h.own.lt k hk).2), h.rng, h.len, h.bit⟩

theorem PenAt.step {B : Nat} {w0 W : World} {p g c n : Nat} {l : List Bool} {bs : List Int} (bl : Below B w0 W) (far : B ≤ p) (hp : W.heap[p]? = some (.cells #[.slice (some ⟨g, 0, none⟩) n c, .int .i64 (l.length : Int), .bool true] 112 (0, 0)))
    (own : W.ownsRow B 5 1 (.slice (some ⟨g, 0, none⟩) n c) n (bs.map (Value.int .u8))) (rng : ∀ b ∈ bs, 0 ≤ b ∧ b < 256) (len : bs.length = n) (bit : ∀ j, bitInt bs j = if l.getD j false then 1 else 0) (hn : (l.length + 8) / 8 = n) (x : Bool) (b2 : Int) (hb2 : orx (bs.getD (l.length / 8) 0) (l.length % 8) x = b2) (hgp : g ≠ p) :
    PenAt B w0 ((W.setCell ⟨g, l.length / 8, none⟩ (.int .u8 b2)).setCell ⟨p, 1, none⟩ (.int .i64 ((l.length : Int) + 1))).drew p (l ++ [x]) (.slice (some ⟨g, 0, none⟩) n c) (bs.set (l.length / 8) b2) := by
  have hBg : B ≤ g := (own.lt g rfl).1
  have hlx : (l ++ [x]).length = l.length + 1 := by simp
  have hlt : l.length / 8 < bs.length := by omega
  have hbb := rng bs[l.length / 8] (List.getElem_mem hlt)
  have hgd : bs.getD (l.length / 8) 0 = bs[l.length / 8] := by rw [List.getD_eq_getElem?_getD, List.getElem?_eq_getElem hlt]; rfl
  have hr2 : 0 ≤ b2 ∧ b2 < 256 := by rw [← hb2, hgd]; exact orx_range hbb.1 hbb.2 (by omega) x
  have h1 : (W.setCell ⟨g, l.length / 8, none⟩ (.int .u8 b2)).heap[p]? = some (.cells #[.slice (some ⟨g, 0, none⟩) n c, .int .i64 (l.length : Int), .bool true] 112 (0, 0)) := (Below.heap_setCell W ⟨g, _, none⟩ _ p (fun h => hgp h.symm)).trans hp
  refine ⟨below_drew ((bl.setCell (p := ⟨g, _, none⟩) hBg _).setCell (p := ⟨p, _, none⟩) far _), far, ?_, ?_, set_range rng hr2, by rw [List.length_set, len, hlx]; omega, ?_⟩
  · have := heap_setCell_same (a := ⟨p, 1, none⟩) (v := .int .i64 ((l.length : Int) + 1)) h1 rfl
    rw [show ((l ++ [x]).length : Int) = (l.length : Int) + 1 by simp]
    exact this
  · have h2 := (own.stored (l.length / 8) (.int .u8 b2)).1
    rw [← List.map_set] at h2
    rw [show ((l ++ [x]).length + 7) / 8 = n by rw [hlx]; omega]
    exact own_move h2 (fun k hk => by
      have : k = g := by simp [Value.ownBlock] at hk; exact hk.symm
      subst this
      exact Below.heap_setCell _ ⟨p, 1, none⟩ _ k hgp)
  · rw [← hb2]
    exact pen_bits hlt rng bit x

/-- (*Pen).write writes a bit. -/
theorem pwrite_any {B : Nat} {w0 w : World} {p : Nat} {l : List Bool} {v : Value} {bs : List Int} (h : PenAt B w0 w p l v bs) (hB : B ≤ w.heap.size) (hl : l.length ≤ 99999) (x : Bool) :
    Calls Try.prog 88 #[.pointer (some ⟨p, 0, none⟩), .int .i64 (if x then 1 else 0)] w fun e w' => e = .returned (.tuple #[]) ∧ (∃ v' bs', PenAt B w0 w' p (l ++ [x]) v' bs') ∧ B ≤ w'.heap.size ∧ ∀ k o, w.heap[k]? = some o → (∀ cur fz, o ≠ .cells cur 5 fz) → k ≠ p → w'.heap[k]? = some o := by
  have hx : ∀ y : Bool, ((if y then 1 else 0 : Int) = 0 ∨ (if y then 1 else 0 : Int) = 1) := by intro y; cases y <;> simp
  obtain ⟨c0, c1, c2⟩ := h.cells
  by_cases hr : l.length % 8 = 0
  · have hq : (l.length + 7) / 8 = l.length / 8 := by omega
    have hlen := h.len
    have hown := h.own
    rw [hq] at hown hlen
    refine (pwrite_new p l.length (l.length / 8) (if x then 1 else 0) B v (bs.map (Value.int .u8)) w h.hp (by omega) (by omega) hown hB (by omega) (hx x) _ (or_penx (b := 0) (r := 0) (by decide) (by decide) (by decide) x)).mono ?_
    rintro e w' ⟨rfl, w1, g, c, hg1, ho1, hpg, rfl⟩
    have hb1 : Below B w0 w1 := (h.bl.alloc hB _).grown hg1 (by simp; omega) (fun k hk => (hown.lt k hk).1)
    have hp1 : w1.heap[p]? = some (.cells #[v, .int .i64 (l.length : Int), .bool true] 112 (0, 0)) := (hg1.block p (by simp; have := (Array.getElem?_eq_some_iff.1 h.hp).1; omega) h.ne).trans (at_old h.hp)
    have hp2 := heap_setCell_same (a := ⟨p, 0, none⟩) (v := .slice (some ⟨g, 0, none⟩) (l.length / 8 + 1) c) hp1 rfl
    have ho2 := own_move (w1 := w1.setCell ⟨p, 0, none⟩ (.slice (some ⟨g, 0, none⟩) (l.length / 8 + 1) c)) ho1 (fun k hk => by
      have : k = g := by simp [Value.ownBlock] at hk; exact hk.symm
      subst this
      exact Below.heap_setCell _ ⟨p, 0, none⟩ _ k (fun h => hpg h.symm))
    have hb0 : (bs ++ [0]).getD (l.length / 8) 0 = 0 := by rw [List.getD_eq_getElem?_getD, List.getElem?_append_right (by omega), hlen]; simp
    have hst := PenAt.step (x := x) (bs := bs ++ [0]) (l := l) (b2 := orx 0 0 x) (hb1.setCell (p := ⟨p, 0, none⟩) h.far _) h.far hp2 (by rw [List.map_append]; exact ho2) (fun b hb => by
      rcases List.mem_append.1 hb with hb | hb
      · exact h.rng b hb
      · simp at hb; subst hb; decide) (by simp; omega) (fun j => by
        rw [← h.bit j]
        unfold bitInt
        congr 2
        rw [List.getD_eq_getElem?_getD, List.getD_eq_getElem?_getD, List.getElem?_append]
        by_cases hj : j / 8 < bs.length
        · rw [if_pos hj]
        · rw [if_neg hj, List.getElem?_eq_none (Nat.le_of_not_lt hj)]
          by_cases hj0 : j / 8 - bs.length = 0
          · rw [hj0]; rfl
          · rw [List.getElem?_eq_none (by simp; omega)]) (by omega) (by rw [hb0, hr]) (fun h => hpg h.symm)
    refine ⟨rfl, ⟨_, _, hst⟩, by simp; exact Nat.le_trans (Nat.le_trans hB (by simp)) hg1.size, fun k o hk ho hkp => ?_⟩
    have hk1 : w1.heap[k]? = some o := (hg1.block k (by simp; have := (Array.getElem?_eq_some_iff.1 hk).1; omega) (own_ne hown hk ho)).trans (at_old hk)
    have hkg : k ≠ g := fun e => own_ne ho1 hk1 ho (by rw [e]; rfl)
    exact (Below.heap_setCell _ ⟨p, 1, none⟩ _ k hkp).trans ((Below.heap_setCell _ ⟨g, _, none⟩ _ k hkg).trans ((Below.heap_setCell _ ⟨p, 0, none⟩ _ k hkp).trans hk1))
  · obtain ⟨g, c, rfl, _, _⟩ := h.own.form (by omega)
    have hgp : g ≠ p := fun e => h.ne (by rw [e]; rfl)
    have hlen := h.len
    have hlt : l.length / 8 < bs.length := by omega
    have hbb := h.rng bs[l.length / 8] (List.getElem_mem hlt)
    have hgd : bs.getD (l.length / 8) 0 = bs[l.length / 8] := by rw [List.getD_eq_getElem?_getD, List.getElem?_eq_getElem hlt]; rfl
    refine (pwrite_in p g ((l.length + 7) / 8) c l.length (l.length / 8) (l.length % 8) (if x then 1 else 0) bs[l.length / 8] w c0 c1 (by omega) (by omega) (by rw [beq_eq_false_iff_ne]; omega) (by omega) ?_ (free_of_heap h.hp 1) (h.own.frozenAt _) (by omega) (by omega) (hx x) _ (or_penx hbb.1 hbb.2 (by omega) x) (fun e => hgp e.symm) hgp).mono ?_
    · rw [h.own.cellAt (l.length / 8) (by omega), List.getElem?_map, List.getElem?_eq_getElem hlt]; rfl
    · rintro e w' ⟨rfl, rfl⟩
      refine ⟨rfl, ⟨_, _, PenAt.step h.bl h.far h.hp h.own h.rng h.len h.bit (by omega) x _ (by rw [hgd]) hgp⟩, by simp; exact hB, fun k o hk ho hkp => ?_⟩
      have hkg : k ≠ g := fun e => own_ne h.own hk ho (by rw [e]; rfl)
      exact (Below.heap_setCell _ ⟨p, 1, none⟩ _ k hkp).trans ((Below.heap_setCell _ ⟨g, _, none⟩ _ k hkg).trans hk)
end Go.Proofs.Ythjfigaalknoiaa
