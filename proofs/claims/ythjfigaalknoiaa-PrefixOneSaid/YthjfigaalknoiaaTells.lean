/- (*prefix.Tree).none, .Put and .Codes, at a tree that lies in memory, at nil, and at a tree that nobody made. -/
import Derived.Test.YthjfigaalknoiaaMaps
set_option linter.unusedVariables false
set_option linter.unusedSimpArgs false
namespace Go.Proofs.Ythjfigaalknoiaa
open Go.RowKit Go.Proofs.YthjfigaalknoiaaW.PrintWords

theorem none_nil (w : World) : Calls Try.prog 77 #[.pointer none] w fun e w' => e = .returned (.bool true) ∧ w = w' := by
  go_enter Try.func77, Try.ntmps77
  go_wp2
  go_ret
  exact ⟨rfl, rfl⟩
theorem none_at (p : Nat) (many : Int) (w : World) (h : w.cell? ⟨p, 2, none⟩ = some (.int .i64 many)) : Calls Try.prog 77 #[.pointer (some ⟨p, 0, none⟩)] w fun e w' => e = .returned (.bool (many == 0)) ∧ w = w' := by
  go_enter Try.func77, Try.ntmps77
  go_wp2
  go_ret
  exact ⟨rfl, rfl⟩
theorem none_tree {B p : Nat} {w : World} {ns : List Nd} {M : List (Int × ByteArray)} {many : Int} (h : TreeOf B p w ns M many) (hm : 0 < many) :
    Calls Try.prog 77 #[.pointer (some ⟨p, 0, none⟩)] w fun e w' => e = .returned (.bool false) ∧ w = w' := by
  obtain ⟨g, cap, bm, es, clock, hT, hE⟩ := h
  refine (none_at p many w hT.c2).mono ?_
  rintro e w' ⟨rfl, rfl⟩
  have : (many == 0) = false := by rw [beq_eq_false_iff_ne]; omega
  rw [this]
  exact ⟨rfl, rfl⟩

theorem codes_nil (w : World) : Calls Try.prog 29 #[.pointer none] w fun e w' => e = .returned (.int .i64 0) ∧ w = w' := by
  go_enter Try.func29, Try.ntmps29
  go_wp2_with (go_at_call 77; refine (none_nil _).mono ?_; rintro e w' ⟨rfl, rfl⟩)
  go_ret
  exact ⟨rfl, rfl⟩
theorem codes_zero (p : Nat) (w : World) (h : w.cell? ⟨p, 2, none⟩ = some (.int .i64 0)) : Calls Try.prog 29 #[.pointer (some ⟨p, 0, none⟩)] w fun e w' => e = .returned (.int .i64 0) ∧ w = w' := by
  go_enter Try.func29, Try.ntmps29
  go_wp2_with (go_at_call 77; refine (none_at _ _ _ h).mono ?_; rintro e w' ⟨rfl, rfl⟩)
  go_ret
  exact ⟨rfl, rfl⟩
theorem codes_tree {B p : Nat} {w : World} {ns : List Nd} {M : List (Int × ByteArray)} {many : Int} (h : TreeOf B p w ns M many) (hm : 0 < many) :
    Calls Try.prog 29 #[.pointer (some ⟨p, 0, none⟩)] w fun e w' => e = .returned (.int .i64 many) ∧ w = w' := by
  have H := Lib.hid h
  obtain ⟨g, cap, bm, es, clock, hT, hE⟩ := h
  have f2 := hT.c2
  clear hT hE
  go_enter Try.func29, Try.ntmps29
  go_wp2_with (go_at_call 77; refine (none_tree H.out hm).mono ?_; rintro e w' ⟨rfl, rfl⟩)
  go_ret
  exact ⟨rfl, rfl⟩

theorem put_nil (num : Int) (w : World) : Calls Try.prog 27 #[.pointer none, .int .i64 num] w fun e w' => e = .returned (.tuple #[.string ⟨#[]⟩, .int .i64 1]) ∧ w = w' := by
  go_enter Try.func27, Try.ntmps27
  go_wp2_with (go_at_call 77; refine (none_nil _).mono ?_; rintro e w' ⟨rfl, rfl⟩)
  go_ret2
  exact ⟨rfl, rfl⟩
theorem put_zero (p : Nat) (num : Int) (w : World) (h : w.cell? ⟨p, 2, none⟩ = some (.int .i64 0)) : Calls Try.prog 27 #[.pointer (some ⟨p, 0, none⟩), .int .i64 num] w fun e w' => e = .returned (.tuple #[.string ⟨#[]⟩, .int .i64 1]) ∧ w = w' := by
  go_enter Try.func27, Try.ntmps27
  go_wp2_with (go_at_call 77; refine (none_at _ _ _ h).mono ?_; rintro e w' ⟨rfl, rfl⟩)
  go_ret2
  exact ⟨rfl, rfl⟩
/-- What Put answers of a map. -/
def putErr (M : List (Int × ByteArray)) (num : Int) : Int := if (look M num).2 then 0 else 18
theorem puts_tree {B p : Nat} {w : World} {ns : List Nd} {M : List (Int × ByteArray)} {many : Int} (h : TreeOf B p w ns M many) (hm : 0 < many) (num : Int) :
    Calls Try.prog 27 #[.pointer (some ⟨p, 0, none⟩), .int .i64 num] w fun e w' => e = .returned (.tuple #[.string (look M num).1, .int .i64 (putErr M num)]) ∧ Below w.heap.size w w' := by
  have H := Lib.hid h
  obtain ⟨g, cap, bm, es, clock, hT, hE⟩ := h
  have HT := Lib.hid hT
  have HE := Lib.hid hE
  have f1 := hT.c1
  clear hT hE
  cases hlk : (look M num).2 with
  | true =>
    have HP : Hid (putErr M num = 0) := Lib.hid (by unfold putErr; rw [hlk]; rfl)
    go_enter Try.func27, Try.ntmps27
    go_wp2_with (first | (go_at_call 77; refine (none_tree H.out hm).mono ?_; rintro e w' ⟨rfl, rfl⟩) | (at_lookup; refine wpList_lookup_run rfl _ _ 44 true rfl _ _ _ rfl rfl (run_look HT.out.hm HE.out num) ?_; rw [hlk]))
    go_ret2
    exact ⟨by rw [HP.out]; rfl, (Below.refl _ _).alloc (Nat.le_refl _) _⟩
  | false =>
    have HP : Hid (putErr M num = 18) := Lib.hid (by unfold putErr; rw [hlk]; rfl)
    have HL : Hid ((look M num).1 = ⟨#[]⟩) := Lib.hid (by
      unfold look at hlk ⊢
      cases hf : M.find? (fun c => c.1 == num) with
      | none => rfl
      | some c => rw [hf] at hlk; cases hlk)
    go_enter Try.func27, Try.ntmps27
    go_wp2_with (first | (go_at_call 77; refine (none_tree H.out hm).mono ?_; rintro e w' ⟨rfl, rfl⟩) | (at_lookup; refine wpList_lookup_run rfl _ _ 44 true rfl _ _ _ rfl rfl (run_look HT.out.hm HE.out num) ?_; rw [hlk]))
    go_ret2
    exact ⟨by rw [HP.out, HL.out]; rfl, (Below.refl _ _).alloc (Nat.le_refl _) _⟩
end Go.Proofs.Ythjfigaalknoiaa
