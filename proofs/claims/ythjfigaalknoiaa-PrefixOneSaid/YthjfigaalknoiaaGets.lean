/- (*prefix.Tree).Get at every tree, all bytes, any place: in one contract. -/
import Derived.Test.YthjfigaalknoiaaGet
set_option linter.unusedVariables false
set_option linter.unusedSimpArgs false
namespace Go.Proofs.Ythjfigaalknoiaa
open Go.RowKit Go.Proofs.YthjfigaalknoiaaW.PrintWords Pt

theorem get_zero (p : Nat) (A : Option Addr) (n c : Nat) (i : Int) (w : World) (h : w.cell? ⟨p, 2, none⟩ = some (.int .i64 0)) : Calls Try.prog 25 #[.pointer (some ⟨p, 0, none⟩), .slice A n c, .int .i64 i] w fun e w' => e = .returned (.tuple #[.int .i64 0, .int .i64 0, .int .i64 1]) ∧ Below w.heap.size w w' := by
  have H : ∀ w', Below w.heap.size w w' → w'.cell? ⟨p, 2, none⟩ = some (.int .i64 0) := fun w' hb => (hb.cell (World.block_lt_of_cell? w _ h)).trans h
  have HH := Lib.hid H
  clear H
  go_enter Try.func25, Try.ntmps25
  go_wp2_with (go_at_call 77; refine (none_at _ _ _ (HH.out _ (by repeat (first | exact Below.refl _ _ | apply below_alloc)))).mono ?_; rintro e w' ⟨rfl, rfl⟩)
  refine bodyPost_ret (v := .tuple #[.int .i64 0, .int .i64 0, .int .i64 1]) (by simp [results, Try.results25, go_sem]) rfl ⟨rfl, ?_⟩
  exact below_alloc (below_alloc (below_alloc (below_alloc (Below.refl _ _) _) _) _) _

theorem get_neg {B p : Nat} {ns : List Nd} {M : List (Int × ByteArray)} {many : Int} (A : Option Addr) (n c : Nat) (i : Int) (w : World) (hT : TreeOf B p w ns M many) (hm : 0 < many) (hi : i < 0) :
    Calls Try.prog 25 #[.pointer (some ⟨p, 0, none⟩), .slice A n c, .int .i64 i] w fun e w' => e = .returned (.tuple #[.int .i64 0, .int .i64 0, .int .i64 3]) ∧ Below w.heap.size w w' := by
  have HH := Lib.hid hT
  clear hT
  go_enter Try.func25, Try.ntmps25
  go_wp2_with (go_at_call 77; refine (none_tree (HH.out.below (by repeat (first | exact Below.refl _ _ | apply below_alloc))) hm).mono ?_; rintro e w' ⟨rfl, rfl⟩)
  refine bodyPost_ret (v := .tuple #[.int .i64 0, .int .i64 0, .int .i64 3]) (by simp [results, Try.results25, go_sem]) rfl ⟨rfl, ?_⟩
  exact below_alloc (below_alloc (below_alloc (below_alloc (Below.refl _ _) _) _) _) _

/-- What Get answers at a place. -/
structure Ans where
  v : Int
  n : Int
  e : Int
def ansOf (R : Res) : Ans := ⟨resV R, resN R, resE R⟩
def getAns (ns : List Nd) (bs : List Int) (nn : Nat) (i : Int) : Ans := if i < 0 then ⟨0, 0, 3⟩ else ansOf (Pt.get ns (ns.getD 0 Nd.empty) 0 (bitsFrom bs i.toNat nn))

theorem get_any {B p : Nat} {ns : List Nd} {M : List (Int × ByteArray)} {many : Int} (A : Option Addr) (nn cc : Nat) (bs : List Int) (i : Int) (w : World) (hT : TreeOf B p w ns M many) (hm : 0 < many) (hwf : Wf ns) (h0 : 0 < ns.length)
    (hB : Bytes w A nn bs) (h63 : i < 9223372036854775808) :
    Calls Try.prog 25 #[.pointer (some ⟨p, 0, none⟩), .slice A nn cc, .int .i64 i] w fun e w' => e = .returned (.tuple #[.int .i64 (getAns ns bs nn i).v, .int .i64 (getAns ns bs nn i).n, .int .i64 (getAns ns bs nn i).e]) ∧ Below w.heap.size w w' := by
  by_cases hi : i < 0
  · have e : getAns ns bs nn i = ⟨0, 0, 3⟩ := by unfold getAns; rw [if_pos hi]
    rw [e]
    exact get_neg A nn cc i w hT hm hi
  · obtain ⟨k, rfl⟩ := Int.eq_ofNat_of_zero_le (show 0 ≤ i by omega)
    obtain ⟨n0, hn0⟩ : ∃ n, ns[0]? = some n := ⟨_, List.getElem?_eq_getElem h0⟩
    have e : getAns ns bs nn (k : Int) = ansOf (Pt.get ns n0 0 (bitsFrom bs k nn)) := by unfold getAns; rw [if_neg hi, getD_of_some hn0, Int.toNat_natCast]
    rw [e]
    exact callsIn_wide.1 (get_main A nn cc bs k w B hT hm hwf h0 hB (by omega) n0 hn0 _ rfl)
end Go.Proofs.Ythjfigaalknoiaa
