/- bits.Pen: the bytes are handed out as a copy; one bit is put as a number. -/
import Derived.Test.YthjfigaalknoiaaDoorPenCode
set_option linter.unusedVariables false
set_option linter.unusedSimpArgs false
namespace Go.Proofs.YthjfigaalknoiaaDoor
open Go.RowKit Go.Proofs.YthjfigaalknoiaaDoorW.PrintWords

theorem pen_row {B : Nat} {w0 w : World} {p : Nat} {l : List Bool} {v : Value} {bs : List Int} (h : PenAt B w0 w p l v bs) : ∃ A c, v = .slice A ((l.length + 7) / 8) c ∧ Row w A ((l.length + 7) / 8) (bs.map (Value.int .u8)) ∧ (A = none → (l.length + 7) / 8 = 0 ∧ bs = []) := by
  have hl : (bs.map (Value.int .u8)).length = (l.length + 7) / 8 := by rw [List.length_map, h.len]
  rcases h.own.2 with ⟨rfl, hz⟩ | ⟨g, cap, cur, rfl, _⟩
  · exact ⟨none, 0, by rw [hz], ⟨hl, fun hp => absurd hp (by omega)⟩, fun _ => ⟨hz, List.eq_nil_of_length_eq_zero (by rw [h.len, hz])⟩⟩
  · exact ⟨some ⟨g, 0, none⟩, cap, rfl, ⟨hl, fun _ => ⟨_, rfl, fun j u hu => h.own.cells (g := g) rfl j u hu⟩⟩, fun e => by cases e⟩

set_option maxRecDepth 100000 in
theorem clone_nil (c : Nat) (w : World) : Calls Tryd.prog 33 #[.slice none 0 c] w fun e w' => e = .returned (.slice none 0 0) ∧ w = w' := by
  have hn := fun W => Lib.run_eql_slice_nil (P := Tryd.prog) W 28 5 none 0 c 0 0 Tryd.underlying28
  go_enter Tryd.func33, Tryd.ntmps33
  go_wp2
  go_ret
  exact ⟨rfl, rfl⟩
set_option maxRecDepth 100000 in
theorem clone_any (a : Addr) (n c : Nat) (bs : List Int) (w : World) (hR : Row w (some a) n (bs.map (Value.int .u8))) (hn : n ≤ 100000) :
    Calls Tryd.prog 33 #[.slice (some a) n c] w fun e w' => ∃ A' c', e = .returned (.slice A' n c') ∧ Below w.heap.size w w' ∧ Row w' A' n (bs.map (Value.int .u8)) := by
  have HR := Lib.hid hR
  clear hR
  have hnn := fun W => Lib.run_eql_slice_nil (P := Tryd.prog) W 28 5 (some a) n c 0 0 Tryd.underlying28
  go_enter Tryd.func33, Tryd.ntmps33
  go_wp2_with (at_builtin; refine wpList_append_fresh (W := w) rfl _ _ 28 5 _ 1 rfl Tryd.underlying28 info5 rfl rfl (some a) n c rfl _ HR.out (fun u hu => by simp at hu; obtain ⟨s, _, rfl⟩ := hu; rfl) (by decide) (by omega) ?_; intro v1 w1 hcp; obtain ⟨A', c', rfl⟩ := own_slice hcp.own; have HP1 := Lib.hid hcp; clear hcp)
  go_ret
  refine ⟨A', c', rfl, HP1.out.bl, HP1.out.own.1.trans (Nat.mul_one _), fun hp => ?_⟩
  obtain ⟨g, cap, hf, _, _⟩ := HP1.out.own.form hp
  injection hf with h1 h2 h3
  subst h1
  exact ⟨_, rfl, fun j u hu => HP1.out.own.cells (g := g) rfl j u hu⟩
theorem pbytes_any {B : Nat} {w0 w : World} {p : Nat} {l : List Bool} {v : Value} {bs : List Int} (h : PenAt B w0 w p l v bs) (hl : l.length ≤ 100000) :
    Calls Tryd.prog 15 #[.pointer (some ⟨p, 0, none⟩)] w fun e w' => ∃ A c, e = .returned (.slice A ((l.length + 7) / 8) c) ∧ Below w.heap.size w w' ∧ Bytes w' A ((l.length + 7) / 8) bs := by
  obtain ⟨c0, c1, c2⟩ := h.cells
  obtain ⟨A, c, rfl, hR, hN⟩ := pen_row h
  have HR := Lib.hid hR
  have HRg := Lib.hid h.rng
  have HN := Lib.hid hN
  have HLe := Lib.hid h.len
  clear hR hN h
  obtain ⟨n, hn⟩ : ∃ n, (l.length + 7) / 8 = n := ⟨_, rfl⟩
  have hn2 : n ≤ 100000 := by omega
  rw [hn] at c0 HR HN HLe ⊢
  clear hn
  cases A with
  | none =>
    obtain ⟨rfl, rfl⟩ := HN.out rfl
    go_enter Tryd.func15, Tryd.ntmps15
    go_wp2_with (first | (go_at_call 30; refine (pnone_any _ _ c2).mono ?_; rintro e w' ⟨rfl, rfl⟩) | (go_at_call 33; refine (clone_nil _ _).mono ?_; rintro e w' ⟨rfl, rfl⟩))
    go_ret
    exact ⟨none, 0, rfl, Below.refl _ _, Bytes_none w⟩
  | some a =>
    go_enter Tryd.func15, Tryd.ntmps15
    go_wp2_with fail
    refine (pnone_any _ _ c2).mono ?_
    rintro e w' ⟨rfl, rfl⟩
    go_wp2_with fail
    refine (clone_any a n c bs w HR.out hn2).mono ?_
    rintro e w' ⟨A', c', rfl, hb, hR2⟩
    have HB := Lib.hid hb
    have HR2 := Lib.hid hR2
    clear hb hR2
    go_wp2
    go_ret
    exact ⟨A', c', rfl, HB.out, int_row HR2.out (by omega), by omega, HRg.out⟩

end Go.Proofs.YthjfigaalknoiaaDoor
