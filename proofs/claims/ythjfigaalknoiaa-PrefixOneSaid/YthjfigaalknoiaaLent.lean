/- LentBytes hands out a copy with room behind it, KeptBytes says that both are as they were. -/
import Derived.Test.YthjfigaalknoiaaOver
import Derived.Deep.Onto
import Derived.Deep.RegionHeld3
set_option linter.unusedVariables false
set_option linter.unusedSimpArgs false
namespace Go.Proofs.Ythjfigaalknoiaa
open Go.RowKit Go.Proofs.YthjfigaalknoiaaW.PrintWords

theorem info5 : (Try.prog.info? 5).map (fun i => (i.zero, i.size, i.bytes)) = some (some (.int .u8 0), 1, 1) := by kernel_rfl

theorem conv_bytes {W : World} {A : Option Addr} {n c : Nat} {bs : List Int} (h : (Kd.int .u8).C W A n bs) : (convert 24 9 (.slice A n c)).run Try.prog W = .ok (.string (strOfNums bs)) W := by
  have hR := row_int h
  cases A with
  | none =>
    have hn : n = 0 := by
      rcases Nat.eq_zero_or_pos n with h0 | h0
      · exact h0
      · obtain ⟨ad, e, _⟩ := hR.2 h0
        cases e
    subst hn
    obtain rfl : bs = [] := List.eq_nil_of_length_eq_zero h.1
    exact run_convert_bytes_nil W 24 5 Try.underlying24 Try.underlying5 0 c 9 Try.underlying9
  | some ad =>
    have hl : (loadCells ad n).run Try.prog W = .ok (bs.map (Value.int .u8)).toArray W := by
      have := run_loadCells_list (P := Try.prog) W ad (bs.map (Value.int .u8)) (fun j v hj => by
        have hjl : j < n := by
          have := (List.getElem?_eq_some_iff.1 hj).1
          rw [hR.1] at this
          exact this
        obtain ⟨ad', e, hc⟩ := hR.2 (by omega)
        cases e
        exact hc j v hj)
      rw [hR.1] at this
      exact this
    rw [run_convert_bytes_string W 24 9 5 _ n c Try.underlying24 Try.underlying5 Try.underlying9, run_bytesToString W _ n c bs hl, foldl_push_bytes]
    simp [strOfNums]

def tail4 : List Int := [201, 202, 203, 204]
/-- What LentBytes hands out lies at g: the bytes, and four behind them. -/
structure Lent (B : Nat) (W : World) (g n cap : Nat) (bs : List Int) : Prop where
  own : W.ownsRow B 5 1 (.slice (some ⟨g, 0, none⟩) (n + 4) cap) (n + 4) ((bs ++ tail4).map (Value.int .u8))
  far : B ≤ g
  len : bs.length = n
theorem Lent.below {B g n cap : Nat} {W W' : World} {bs : List Int} (h : Lent B W g n cap bs) (hb : Below W.heap.size W W') : Lent B W' g n cap bs :=
  ⟨own_move h.own (fun k hk => hb.block _ (h.own.lt k hk).2), h.far, h.len⟩
theorem Lent.cap_ge {B g n cap : Nat} {W : World} {bs : List Int} (h : Lent B W g n cap bs) : n + 4 ≤ cap ∧ cap ≤ 9223372036854775807 := by
  rcases h.own.2 with ⟨e, _⟩ | ⟨g', cap', cur, e, _, _, h1, h2, _⟩
  · cases e
  · injection e with e1 e2 e3
    subst e3
    exact ⟨h1, h2⟩
theorem Lent.bytes {B g n cap : Nat} {W : World} {bs : List Int} (h : Lent B W g n cap bs) (hn : n ≤ 9223372036854775807) : (Kd.int .u8).C W (some ⟨g, 0, none⟩) n bs := by
  refine int_row ⟨by simp [h.len], fun _ => ⟨_, rfl, fun j u hu => ?_⟩⟩ hn
  refine h.own.cells (g := g) rfl j u ?_
  rw [List.map_append, List.getElem?_append_left (by have := (List.getElem?_eq_some_iff.1 hu).1; exact this)]
  exact hu
theorem Lent.behind {B g n cap : Nat} {W : World} {bs : List Int} (h : Lent B W g n cap bs) : (Kd.int .u8).C W (some ⟨g, n, none⟩) 4 tail4 := by
  refine int_row ⟨rfl, fun _ => ⟨_, rfl, fun j u hu => ?_⟩⟩ (by decide)
  have hj : j < 4 := (List.getElem?_eq_some_iff.1 hu).1
  have := h.own.cells (g := g) rfl (n + j) u (by
    rw [List.map_append, List.getElem?_append_right (by simp [h.len])]
    simp only [List.length_map, h.len, Nat.add_sub_cancel_left]
    exact hu)
  rw [add_plain] at this
  have e : (⟨g, n, none⟩ : Addr).add j = ⟨g, n + j, none⟩ := by unfold Addr.add; split <;> simp_all
  rw [e]
  exact this

theorem own_cap {W : World} {B e g m cap : Nat} {xs : List Value} (h : W.ownsRow B e 1 (.slice (some ⟨g, 0, none⟩) m cap) m xs) : m ≤ cap := by
  rcases h.2 with ⟨e, _⟩ | ⟨g', cap', cur, e, _, _, h1, h2, _⟩
  · cases e
  · injection e with e1 e2 e3; omega
theorem own_form4 {W : World} {B e n : Nat} {v : Value} {xs : List Value} (h : W.ownsRow B e 1 v (n + 4) xs) : ∃ g cap, v = .slice (some ⟨g, 0, none⟩) (n + 4) cap ∧ B ≤ g ∧ n ≤ cap := by
  obtain ⟨g, cap, rfl, h1, h2⟩ := h.form (by omega)
  have := own_cap h
  exact ⟨g, cap, rfl, h1, by omega⟩
theorem lit_cells (W : World) (us : List Value) (t : Nat) : ∀ j u, us[j]? = some u → (W.alloc (.cells us.toArray t)).cell? ((⟨W.heap.size, 0, none⟩ : Addr).add j) = some u := by
  intro j u hu
  rw [add_plain, cell_of_heap (at_alloc _ _ rfl), List.getElem?_toArray]
  exact hu

set_option maxRecDepth 100000 in
theorem lent_any (A : Option Addr) (n c : Nat) (bs : List Int) (w : World) (hB : Bytes w A n bs) (h100 : n ≤ 100) :
    Calls Try.prog 38 #[.slice A n c] w fun e w' => ∃ g cap, e = .returned (.slice (some ⟨g, 0, none⟩) n cap) ∧ Below w.heap.size w w' ∧ Lent w.heap.size w' g n cap bs := by
  have HB := Lib.hid hB
  have HR := Lib.hid (row_int hB.1)
  clear hB
  have t1 : True := trivial
  have t2 : True := trivial
  obtain ⟨i0, hi, hzz⟩ := Option.map_eq_some_iff.1 info5
  simp only [Prod.mk.injEq] at hzz
  obtain ⟨hz0, hz1, hz2⟩ := hzz
  have HI0 := Lib.hid hi
  have HZ0 := Lib.hid hz0
  have HZ1 := Lib.hid hz1
  have HZ2 := Lib.hid hz2
  clear hi hz0 hz1 hz2
  go_enter Try.func38, Try.ntmps38
  go_wp2_with (first | (at_builtin; have _u := t1; refine wpList_append_fresh (W := w) rfl _ _ 24 5 _ 1 rfl Try.underlying24 info5 rfl rfl A n c rfl _ HR.out (fun u hu => by simp at hu; obtain ⟨s, _, rfl⟩ := hu; rfl) (by decide) (by omega) ?_; intro v1 w1 hcp; have HP1 := Lib.hid hcp; clear hcp t1) | (at_builtin; have _u := t2; refine wpList_append_own (w1.alloc (.cells #[.int .u8 201, .int .u8 202, .int .u8 203, .int .u8 204] 5)) rfl _ _ 24 rfl w.heap.size 5 i0 _ 1 1 Try.underlying24 HI0.out HZ0.out HZ1.out HZ2.out rfl (by decide) _ _ _ rfl (HP1.out.own.alloc _) ⟨w1.heap.size, 0, none⟩ 4 4 [.int .u8 201, .int .u8 202, .int .u8 203, .int .u8 204] rfl rfl (lit_cells w1 [.int .u8 201, .int .u8 202, .int .u8 203, .int .u8 204] 5) (by simp [Value.oneCell']) (by simp only [maxLen]; omega) (by omega) (Nat.le_trans HP1.out.bl.size (by simp)) ?_; intro v2 w2 ho hg _; obtain ⟨g, cap, rfl, hE, hcap⟩ := own_form4 ho; have HG := Lib.hid hg; have HO := Lib.hid ho; clear ho hg t2))
  go_ret
  refine ⟨g, cap, rfl, (below_alloc HP1.out.bl _).grown HG.out (Nat.le_trans HP1.out.bl.size (by simp)) (fun k hk => ?_), ?_, hE, HB.out.1.1⟩
  · exact (HP1.out.own.lt k hk).1
  · rw [List.map_append]
    exact HO.out
end Go.Proofs.Ythjfigaalknoiaa
