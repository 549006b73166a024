/- bits.Pen: the bytes are handed out as a copy; one bit is put as a number. -/
import Derived.Test.YthjfigaalknoiaaPenCode
set_option linter.unusedVariables false
set_option linter.unusedSimpArgs false
namespace Go.Proofs.Ythjfigaalknoiaa
open Go.RowKit Go.Proofs.YthjfigaalknoiaaW.PrintWords

theorem pen_row {B : Nat} {w0 w : World} {p : Nat} {l : List Bool} {v : Value} {bs : List Int} (h : PenAt B w0 w p l v bs) : ∃ A c, v = .slice A ((l.length + 7) / 8) c ∧ Row w A ((l.length + 7) / 8) (bs.map (Value.int .u8)) ∧ (A = none → (l.length + 7) / 8 = 0 ∧ bs = []) := by
  have hl : (bs.map (Value.int .u8)).length = (l.length + 7) / 8 := by rw [List.length_map, h.len]
  rcases h.own.2 with ⟨rfl, hz⟩ | ⟨g, cap, cur, rfl, _⟩
  · exact ⟨none, 0, by rw [hz], ⟨hl, fun hp => absurd hp (by omega)⟩, fun _ => ⟨hz, List.eq_nil_of_length_eq_zero (by rw [h.len, hz])⟩⟩
  · exact ⟨some ⟨g, 0, none⟩, cap, rfl, ⟨hl, fun _ => ⟨_, rfl, fun j u hu => h.own.cells (g := g) rfl j u hu⟩⟩, fun e => by cases e⟩

set_option maxRecDepth 100000 in
theorem clone_nil (c : Nat) (w : World) : Calls Try.prog 89 #[.slice none 0 c] w fun e w' => e = .returned (.slice none 0 0) ∧ w = w' := by
  have hn := fun W => Lib.run_eql_slice_nil (P := Try.prog) W 24 5 none 0 c 0 0 Try.underlying24
  go_enter Try.func89, Try.ntmps89
  go_wp2
  go_ret
  exact ⟨rfl, rfl⟩
set_option maxRecDepth 100000 in
theorem clone_any (a : Addr) (n c : Nat) (bs : List Int) (w : World) (hR : Row w (some a) n (bs.map (Value.int .u8))) (hn : n ≤ 100000) :
    Calls Try.prog 89 #[.slice (some a) n c] w fun e w' => ∃ A' c', e = .returned (.slice A' n c') ∧ Below w.heap.size w w' ∧ Row w' A' n (bs.map (Value.int .u8)) := by
  have HR := Lib.hid hR
  clear hR
  have hnn := fun W => Lib.run_eql_slice_nil (P := Try.prog) W 24 5 (some a) n c 0 0 Try.underlying24
  go_enter Try.func89, Try.ntmps89
  go_wp2_with (at_builtin; refine wpList_append_fresh (W := w) rfl _ _ 24 5 _ 1 rfl Try.underlying24 info5 rfl rfl (some a) n c rfl _ HR.out (fun u hu => by simp at hu; obtain ⟨s, _, rfl⟩ := hu; rfl) (by decide) (by omega) ?_; intro v1 w1 hcp; obtain ⟨A', c', rfl⟩ := own_slice hcp.own; have HP1 := Lib.hid hcp; clear hcp)
  go_ret
  refine ⟨A', c', rfl, HP1.out.bl, HP1.out.own.1.trans (Nat.mul_one _), fun hp => ?_⟩
  obtain ⟨g, cap, hf, _, _⟩ := HP1.out.own.form hp
  injection hf with h1 h2 h3
  subst h1
  exact ⟨_, rfl, fun j u hu => HP1.out.own.cells (g := g) rfl j u hu⟩
theorem pbytes_any {B : Nat} {w0 w : World} {p : Nat} {l : List Bool} {v : Value} {bs : List Int} (h : PenAt B w0 w p l v bs) (hl : l.length ≤ 100000) :
    Calls Try.prog 51 #[.pointer (some ⟨p, 0, none⟩)] w fun e w' => ∃ A c, e = .returned (.slice A ((l.length + 7) / 8) c) ∧ Below w.heap.size w w' ∧ Bytes w' A ((l.length + 7) / 8) bs := by
  obtain ⟨c0, c1, c2⟩ := h.cells
  obtain ⟨A, c, rfl, hR, hN⟩ := pen_row h
  have HR := Lib.hid hR
  have HRg := Lib.hid h.rng
  have HN := Lib.hid hN
  have HLe := Lib.hid h.len
  clear hR hN h
  obtain ⟨n, hn⟩ : ∃ n, (l.length + 7) / 8 = n := ⟨_, rfl⟩
  have hn2 : n ≤ 100000 := by omega
  rw [hn] at c0 HR HN HLe ⊢
  clear hn
  cases A with
  | none =>
    obtain ⟨rfl, rfl⟩ := HN.out rfl
    go_enter Try.func51, Try.ntmps51
    go_wp2_with (first | (go_at_call 86; refine (pnone_any _ _ c2).mono ?_; rintro e w' ⟨rfl, rfl⟩) | (go_at_call 89; refine (clone_nil _ _).mono ?_; rintro e w' ⟨rfl, rfl⟩))
    go_ret
    exact ⟨none, 0, rfl, Below.refl _ _, Bytes_none w⟩
  | some a =>
    go_enter Try.func51, Try.ntmps51
    go_wp2_with fail
    refine (pnone_any _ _ c2).mono ?_
    rintro e w' ⟨rfl, rfl⟩
    go_wp2_with fail
    refine (clone_any a n c bs w HR.out hn2).mono ?_
    rintro e w' ⟨A', c', rfl, hb, hR2⟩
    have HB := Lib.hid hb
    have HR2 := Lib.hid hR2
    clear hb hR2
    go_wp2
    go_ret
    exact ⟨A', c', rfl, HB.out, int_row HR2.out (by omega), by omega, HRg.out⟩

/-- One bit, put as a number. -/
theorem pput_one {B : Nat} {w0 w : World} {p : Nat} {l : List Bool} {v : Value} {bs : List Int} (h : PenAt B w0 w p l v bs) (hB : B ≤ w.heap.size) (hl : l.length ≤ 90000) (x : Bool) :
    Calls Try.prog 69 #[.pointer (some ⟨p, 0, none⟩), .int .i64 (if x then 1 else 0), .int .i64 1] w fun e w' => e = .returned (.int .i64 0) ∧ (∃ v' bs', PenAt B w0 w' p (l ++ [x]) v' bs') ∧ B ≤ w'.heap.size := by
  obtain ⟨c0, c1, c2⟩ := h.cells
  have HW := Lib.hid (pwrite_any h hB (by omega) x)
  cases x with
  | false =>
    have hcall : Calls Try.prog 88 #[.pointer (some ⟨p, 0, none⟩), .int .i64 0] w _ := HW.out
    show Calls Try.prog 69 #[.pointer (some ⟨p, 0, none⟩), .int .i64 0, .int .i64 1] w _
    clear h
    go_enter Try.func69, Try.ntmps69
    go_wp2_with fail
    refine (pnone_any _ _ c2).mono ?_
    rintro e w' ⟨rfl, rfl⟩
    go_wp2_with fail
    refine (pfull_any p (l.length : Int) 1 w c1 (by omega) (by omega) (by omega) (by omega)).mono ?_
    rintro e w' ⟨rfl, rfl⟩
    go_wp2
    go_loopw [7] (fun i wr => (i = .int .i64 0 ∧ w = wr) ∨ (i = .int .i64 (-1) ∧ Hid (∃ v' bs', PenAt B w0 wr p (l ++ [false]) v' bs') ∧ Hid (B ≤ wr.heap.size))) (fun i _ => (intOf i + 1).toNat)
    case atStart => exact .inl ⟨rfl, rfl⟩
    case round =>
      rcases hrel with ⟨rfl, rfl⟩ | ⟨rfl, hP, hB2⟩
      · go_wp2_with fail
        refine hcall.mono ?_
        rintro e w1 ⟨rfl, hP, hB2, _⟩
        have HP := Lib.hid hP
        have HB2 := Lib.hid hB2
        clear hP hB2 hcall c0 c1 c2
        go_wp2
        go_roundw
        case rel => exact .inr ⟨rfl, HP, HB2⟩
        case measure => simp [intOf]
      · clear hcall c0 c1 c2
        go_wp2
        go_ret
        exact ⟨rfl, hP.out, hB2.out⟩
  | true =>
    have hcall : Calls Try.prog 88 #[.pointer (some ⟨p, 0, none⟩), .int .i64 1] w _ := HW.out
    show Calls Try.prog 69 #[.pointer (some ⟨p, 0, none⟩), .int .i64 1, .int .i64 1] w _
    clear h
    go_enter Try.func69, Try.ntmps69
    go_wp2_with fail
    refine (pnone_any _ _ c2).mono ?_
    rintro e w' ⟨rfl, rfl⟩
    go_wp2_with fail
    refine (pfull_any p (l.length : Int) 1 w c1 (by omega) (by omega) (by omega) (by omega)).mono ?_
    rintro e w' ⟨rfl, rfl⟩
    go_wp2
    go_loopw [7] (fun i wr => (i = .int .i64 0 ∧ w = wr) ∨ (i = .int .i64 (-1) ∧ Hid (∃ v' bs', PenAt B w0 wr p (l ++ [true]) v' bs') ∧ Hid (B ≤ wr.heap.size))) (fun i _ => (intOf i + 1).toNat)
    case atStart => exact .inl ⟨rfl, rfl⟩
    case round =>
      rcases hrel with ⟨rfl, rfl⟩ | ⟨rfl, hP, hB2⟩
      · go_wp2_with fail
        refine hcall.mono ?_
        rintro e w1 ⟨rfl, hP, hB2, _⟩
        have HP := Lib.hid hP
        have HB2 := Lib.hid hB2
        clear hP hB2 hcall c0 c1 c2
        go_wp2
        go_roundw
        case rel => exact .inr ⟨rfl, HP, HB2⟩
        case measure => simp [intOf]
      · clear hcall c0 c1 c2
        go_wp2
        go_ret
        exact ⟨rfl, hP.out, hB2.out⟩
end Go.Proofs.Ythjfigaalknoiaa
