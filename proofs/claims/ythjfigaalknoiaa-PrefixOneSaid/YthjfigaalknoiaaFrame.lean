/- Rows that came in, opened for a walk: a row of texts, of numbers, of bytes: what it holds, and that it fits. -/
import Derived.Test.YthjfigaalknoiaaFresh
import Derived.Test.YthjfigaalknoiaaRows
import Derived.ProofKit
import Derived.ShutString
import Derived.ChangeOld
import Derived.SliceStrings
import Derived.OpenShut
import Derived.SizedLaws
set_option linter.unusedVariables false
set_option linter.unusedSimpArgs false
namespace Go.Proofs.Ythjfigaalknoiaa
open Go.ChangeShapes Go.WideShapes Go.ChangeAt Go.RowKit Go.Proofs.YthjfigaalknoiaaW.PrintWords

theorem bytes9 : Try.prog.bytesOf 9 = 16 := by kernel_rfl
theorem bytes3 : Try.prog.bytesOf 3 = 8 := by kernel_rfl
theorem bytes5 : Try.prog.bytesOf 5 = 1 := by kernel_rfl

theorem lt63 {n : Int} (h : (Lit.int .i64 n).wf = true) : n < 9223372036854775808 := by
  unfold Lit.wf at h
  rw [Bool.and_eq_true, decide_eq_true_iff, decide_eq_true_iff, show IntKind.i64.max = 9223372036854775807 from by decide] at h
  omega
theorem ge63 {n : Int} (h : (Lit.int .i64 n).wf = true) : -9223372036854775808 ≤ n := by
  unfold Lit.wf at h
  rw [Bool.and_eq_true, decide_eq_true_iff, decide_eq_true_iff, show IntKind.i64.min = -9223372036854775808 from by decide] at h
  omega

section
variable {H : Type} {enc : TypeId × Value → H} {W : World} {base : Nat} {held : Bool} {fuel : Nat}

theorem weigh {t e : TypeId} {elems spare : List (DataW H)} (hu : Try.prog.underlying t = some (.slice e)) (h : ∀ n ∈ (DataW.slice elems spare : DataW H).weights Try.prog t, n ≤ reachBytes) : (elems.length + spare.length) * Try.prog.bytesOf e ≤ reachBytes :=
  h _ (by simp [DataW.weights, hu])
theorem weights_at {ts : List TypeId} {ds : List (DataW H)} (h : (DataW.weightsEach Try.prog ts ds).all (· ≤ reachBytes) = true) {j : Nat} {t : TypeId} {d : DataW H} (ht : ts[j]? = some t) (hd : ds[j]? = some d) : ∀ n ∈ d.weights Try.prog t, n ≤ reachBytes := by
  intro n hn
  have := List.all_eq_true.1 h _ (DataW.weights_mem_each ht hd n hn)
  simpa using this

theorem came_strs {a : Option Addr} {len cap : Nat} {d : DataW H} {p : List MemPlace} (h : ∃ m, DataW.trod enc Try.prog W base (fun _ => true) held m 22 [.slice a len cap] = some (d, p)) (hw : ∀ n ∈ d.weights Try.prog 22, n ≤ reachBytes) :
    ∃ ss, Kd.string.C W a len ss ∧ (∀ s ∈ ss, s.size ≤ maxLen) ∧ len * 16 ≤ 140737488351232 := by
  obtain ⟨m, hf⟩ := h
  rcases open_strings Try.underlying22 Try.underlying9 (by kernel_rfl) hf with ⟨hcs, _⟩ | ⟨x, l, c, ss, hcs, _, hl, hm, hlen, hx, hcell, hsz⟩
  · simp at hcs
    obtain ⟨rfl, rfl, rfl⟩ := hcs
    exact ⟨[], C_none _ _, fun s hs => by simp at hs, by omega⟩
  · simp at hcs
    obtain ⟨rfl, rfl, rfl⟩ := hcs
    injection hx with hx _
    subst hx
    have h1 := weigh Try.underlying22 hw
    rw [bytes9] at h1
    simp only [strs, List.length_map, List.length_take, List.length_drop, reachBytes] at h1
    simp at hlen
    have h2 : len * 16 ≤ 140737488351232 := by omega
    refine ⟨ss.take len, str_row ⟨?_, fun hp => ⟨x, rfl, fun j u hu => ?_⟩⟩ (by omega), fun s hs => hsz s (List.mem_of_mem_take hs), h2⟩
    · simp; omega
    · rw [List.getElem?_map, Option.map_eq_some_iff] at hu
      obtain ⟨s, hs, rfl⟩ := hu
      rw [List.getElem?_take] at hs
      split at hs
      · rw [hcell j (by omega), List.getD_eq_getElem?_getD, hs]; rfl
      · cases hs
theorem came_ints {t e : TypeId} {k : IntKind} {by8 : Nat} (ht : Try.prog.underlying t = some (.slice e)) (he : Try.prog.underlying e = some (.int k)) (hc1 : Try.prog.cellsOf e = 1) (hb : Try.prog.bytesOf e = by8)
    {a : Option Addr} {len cap : Nat} {d : DataW H} {p : List MemPlace} (h : ∃ m, DataW.trod enc Try.prog W base (fun _ => true) held m t [.slice a len cap] = some (d, p)) (hw : ∀ n ∈ d.weights Try.prog t, n ≤ reachBytes) (h1 : 1 ≤ by8) :
    ∃ zs, (Kd.int k).C W a len zs ∧ (∀ n ∈ zs, (Lit.int k n).wf = true) ∧ len * by8 ≤ 140737488351232 := by
  obtain ⟨m, hf⟩ := h
  rcases open_ints ht he hc1 hf with ⟨hcs, _⟩ | ⟨x, l, c, ss, hcs, _, hl, hm, hlen, hx, hcell, hsz⟩
  · simp at hcs
    obtain ⟨rfl, rfl, rfl⟩ := hcs
    exact ⟨[], C_none _ _, fun s hs => by simp at hs, by omega⟩
  · simp at hcs
    obtain ⟨rfl, rfl, rfl⟩ := hcs
    injection hx with hx _
    subst hx
    have h3 := weigh ht hw
    rw [hb] at h3
    simp at hlen
    have h4 : (lits k (ss.take len) : List (DataW H)).length + (lits k (ss.drop len) : List (DataW H)).length = cap := by simp [lits]; omega
    rw [h4] at h3
    have h2 : len * by8 ≤ 140737488351232 := Nat.le_trans (Nat.mul_le_mul_right _ hl) h3
    have h5 : len ≤ len * by8 := Nat.le_mul_of_pos_right _ h1
    refine ⟨ss.take len, int_row ⟨?_, fun hp => ⟨x, rfl, fun j u hu => ?_⟩⟩ (by omega), fun s hs => hsz s (List.mem_of_mem_take hs), h2⟩
    · simp; omega
    · rw [List.getElem?_map, Option.map_eq_some_iff] at hu
      obtain ⟨s, hs, rfl⟩ := hu
      rw [List.getElem?_take] at hs
      split at hs
      · rw [hcell j (by omega), List.getD_eq_getElem?_getD, hs]; rfl
      · cases hs
theorem came_bytes {a : Option Addr} {len cap : Nat} {d : DataW H} {p : List MemPlace} (h : ∃ m, DataW.trod enc Try.prog W base (fun _ => true) held m 24 [.slice a len cap] = some (d, p)) (hw : ∀ n ∈ d.weights Try.prog 24, n ≤ reachBytes) :
    ∃ bs, Bytes W a len bs := by
  obtain ⟨zs, h1, h2, h3⟩ := came_ints Try.underlying24 Try.underlying5 (by kernel_rfl) bytes5 h hw (Nat.le_refl _)
  refine ⟨zs, h1, by omega, fun x hx => ?_⟩
  have := h2 x hx
  unfold Lit.wf at this
  rw [Bool.and_eq_true, decide_eq_true_iff, decide_eq_true_iff, show IntKind.u8.min = 0 from by decide, show IntKind.u8.max = 255 from by decide] at this
  omega
end
end Go.Proofs.Ythjfigaalknoiaa
