/- The tree and the reference's tree tell the same: plain laws; and both outlast a write to what lies below them. -/
import Derived.Test.YthjfigaalknoiaaOver
set_option linter.unusedVariables false
set_option linter.unusedSimpArgs false
namespace Go.Proofs.Ythjfigaalknoiaa
open Go.RowKit Go.Proofs.YthjfigaalknoiaaW.PrintWords Pt

/-- The tree of these codes and numbers lies at p, all of it from B on. -/
structure TrB (B : Nat) (w : World) (p : Nat) (cs : List ByteArray) (vs : List Int) : Prop where
  good : ¬ Bad cs vs
  lies : ∃ ns, Pt.build [Nd.empty] (pairs cs vs) = some ns ∧ TreeOf B p w ns (told cs vs) cs.length ∧ Wf ns ∧ 0 < ns.length
theorem TrB.tr {B p : Nat} {w : World} {cs : List ByteArray} {vs : List Int} (h : TrB B w p cs vs) : Tr w p cs vs := by
  obtain ⟨g, ns, h1⟩ := h
  exact ⟨g, B, ns, h1⟩
theorem TrB.below {B : Nat} {w w' : World} {p : Nat} {cs : List ByteArray} {vs : List Int} (h : TrB B w p cs vs) (hb : Below w.heap.size w w') : TrB B w' p cs vs := by
  obtain ⟨g, ns, h1, h2, h3, h4⟩ := h
  exact ⟨g, ns, h1, h2.below hb, h3, h4⟩
theorem TrB.touch {E B B' : Nat} {w w' : World} {p : Nat} {cs : List ByteArray} {vs : List Int} (h : TrB B w p cs vs) (hb : Touch E B' w w') (hB : B' ≤ B) : TrB B w' p cs vs := by
  obtain ⟨g, ns, h1, ⟨g2, cap, bm, es, clock, hT, hE⟩, h3, h4⟩ := h
  refine ⟨g, ns, h1, ⟨g2, cap, bm, es, clock, hT.move (hb.above _ (Nat.le_trans hB hT.Bp)) (hb.above _ ?_) (hb.above _ (Nat.le_trans hB hT.Bm)), hE⟩, h3, h4⟩
  obtain ⟨cur, _, hg⟩ := hT.heapg
  omega
theorem make_trB (A A' : Option Addr) (n c n' c' : Nat) (cs : List ByteArray) (vs : List Int) (w : World) (hC : Kd.string.C w A n cs) (hV : (Kd.int .i64).C w A' n' vs) (hs : ∀ s ∈ cs, s.size ≤ maxLen)
    (hg : ¬ Bad cs vs) (hp : (pairs cs vs).Pairwise Apart) :
    Calls Try.prog 21 #[.slice A n c, .slice A' n' c'] w fun e w' => ∃ p, e = .returned (.tuple #[.pointer (some ⟨p, 0, none⟩), .int .i64 0]) ∧ Below w.heap.size w w' ∧ TrB w.heap.size w' p cs vs := by
  refine (make_any A A' n c n' c' cs vs w hC hV hs).mono ?_
  intro e w' h
  cases hb : Pt.build [Nd.empty] (pairs cs vs) with
  | none => exact absurd hp ((build_none (pairs_ne hg).1).1 hb)
  | some ns =>
    obtain ⟨p, h1, h2, h3, h4, h5⟩ := h.tree hg ns hb
    exact ⟨p, h1, h2, hg, ns, hb, h3, h4, h5⟩

theorem cell_touch {E B : Nat} {w w' : World} (hb : Touch E B w w') {ad : Addr} (hB : B ≤ ad.block) : w'.cell? ad = w.cell? ad := by
  unfold World.cell?; rw [hb.above _ hB]
theorem add_block (ad : Addr) (j : Nat) : (ad.add j).block = ad.block := by unfold Addr.add; split <;> rfl
theorem row_touch {E B : Nat} {w w' : World} (hb : Touch E B w w') {A : Option Addr} {n : Nat} {ys : List Value} (hB : ∀ ad, A = some ad → B ≤ ad.block) (h : Row w A n ys) : Row w' A n ys :=
  ⟨h.1, fun hn => by
    obtain ⟨ad, e, hc⟩ := h.2 hn
    exact ⟨ad, e, fun j u hu => by rw [cell_touch hb (by rw [add_block]; exact hB ad e)]; exact hc j u hu⟩⟩
theorem RT.touch {E B B' : Nat} {w w' : World} {p : Nat} {cs : List ByteArray} {vs : List Int} (h : RT B w p cs vs) (hb : Touch E B' w w') (hB : B' ≤ B) : RT B w' p cs vs := by
  obtain ⟨⟨a, c, a', c', h1, h2, h3, h6, h7⟩, h8, h4, h5⟩ := h
  exact ⟨⟨a, c, a', c', (hb.above _ (by omega)).trans h1, str_row (row_touch hb (fun ad e => Nat.le_trans hB (h6 ad e)) (row_str h2)) h2.2.1, int_row (row_touch hb (fun ad e => Nat.le_trans hB (h7 ad e)) (row_int h3)) h3.2.1, h6, h7⟩, h8, h4, h5⟩

theorem beg_code {s t : ByteArray} (hs : isCode s = true) (ht : isCode t = true) : beg s t = true ↔ bitsOf t <+: bitsOf s := by
  unfold beg
  rw [List.isPrefixOf_iff_prefix, txt_bits hs, txt_bits ht, map_pre]
theorem free_iff {cs : List ByteArray} {vs : List Int} (h : ¬ Bad cs vs) : Free cs ↔ (pairs cs vs).Pairwise Apart := by
  obtain ⟨_, _, _, h1, h2, _⟩ := pairs_ne h
  have hl : (pairs cs vs).length = cs.length := by unfold pairs; simp; omega
  have hg : ∀ i (hi : i < cs.length), (pairs cs vs)[i]'(by omega) = (bitsOf cs[i], vs[i]'(by omega)) := fun i hi => by
    have := pairs_get (cs := cs) (vs := vs) hi (by omega)
    rw [List.getElem?_eq_getElem (by omega)] at this
    exact Option.some.inj this
  have hc : ∀ i (hi : i < cs.length), isCode cs[i] = true := fun i hi => List.all_eq_true.1 h2 _ (List.getElem_mem hi)
  rw [List.pairwise_iff_getElem]
  constructor
  · intro hf i j hi hj hij
    rw [hg i (by omega), hg j (by omega)]
    refine ⟨fun hp => ?_, fun hp => ?_⟩
    · have := hf j i (by omega) (by omega) (by omega)
      rw [(beg_code (hc j (by omega)) (hc i (by omega))).2 hp] at this
      cases this
    · have := hf i j (by omega) (by omega) (by omega)
      rw [(beg_code (hc i (by omega)) (hc j (by omega))).2 hp] at this
      cases this
  · intro hp i j hi hj hij
    cases hb : beg cs[i] cs[j] with
    | false => rfl
    | true =>
      have hq := (beg_code (hc i hi) (hc j hj)).1 hb
      rcases Nat.lt_or_gt_of_ne hij with hlt | hlt
      · have := hp i j (by omega) (by omega) hlt
        rw [hg i hi, hg j hj] at this
        exact absurd hq this.2
      · have := hp j i (by omega) (by omega) hlt
        rw [hg i hi, hg j hj] at this
        exact absurd hq this.1

theorem look_addM (M : List (Int × ByteArray)) (k k' : Int) (s : ByteArray) : look (addM M k' s) k = if (look M k).2 then look M k else if k' == k then (s, true) else (⟨#[]⟩, false) := by
  unfold addM
  by_cases h : (look M k').2 = true
  · rw [if_pos h]
    by_cases e : k' = k
    · subst e; rw [if_pos h]
    · by_cases h2 : (look M k).2 = true
      · rw [if_pos h2]
      · rw [if_neg h2, if_neg (by simpa using e)]
        unfold look at h2 ⊢
        cases hf : M.find? (fun c => c.1 == k) with
        | some c => rw [hf] at h2; exact absurd rfl h2
        | none => rfl
  · rw [if_neg h]
    unfold look
    rw [List.find?_append]
    cases hf : M.find? (fun c => c.1 == k) with
    | some c => simp
    | none =>
      by_cases e : k' = k
      · subst e; simp
      · have : (k' == k) = false := by simpa using e
        simp [this]
theorem look_fold : ∀ (l : List (ByteArray × Int)) (M : List (Int × ByteArray)) (k : Int), look (l.foldl (fun M c => addM M c.2 c.1) M) k = if (look M k).2 then look M k else match l.find? (fun c => c.2 == k) with | some c => (c.1, true) | none => (⟨#[]⟩, false)
  | [], M, k => by
    simp only [List.foldl_nil, List.find?_nil]
    split
    · rfl
    · rename_i h
      unfold look at h ⊢
      cases hf : M.find? (fun c => c.1 == k) with
      | some c => rw [hf] at h; exact absurd rfl h
      | none => rfl
  | x :: l, M, k => by
    rw [List.foldl_cons, look_fold l, look_addM]
    by_cases h : (look M k).2 = true
    · rw [if_pos h, if_pos h, if_pos h]
    · rw [if_neg h, if_neg h]
      by_cases e : x.2 = k
      · have : (x.2 == k) = true := by simpa using e
        rw [if_pos this, if_pos rfl, List.find?_cons, this]
      · have hk : (x.2 == k) = false := by simpa using e
        have h1 : (if (x.2 == k) = true then (x.1, true) else ((⟨#[]⟩ : ByteArray), false)) = (⟨#[]⟩, false) := by rw [hk]; rfl
        have h2 : (x :: l).find? (fun c => c.2 == k) = l.find? (fun c => c.2 == k) := by rw [List.find?_cons, hk]
        rw [h1, h2]
        rfl
theorem find_zip : ∀ (cs : List ByteArray) (vs : List Int) (k : Int), (match (cs.zip vs).find? (fun c => c.2 == k) with | some c => (c.1, (0 : Int)) | none => (⟨#[]⟩, 18)) = rlook cs vs k
  | [], vs, k => by unfold rlook; simp
  | c :: cs, [], k => by unfold rlook; simp
  | c :: cs, v :: vs, k => by
    have ih := find_zip cs vs k
    unfold rlook at ih ⊢
    rw [List.zip_cons_cons, List.zip_cons_cons, List.find?_cons, List.find?_cons]
    by_cases e : (v == k) = true
    · simp only [e]
    · have e' : (v == k) = false := by simpa using e
      simp only [e']
      exact ih
theorem told_look (cs : List ByteArray) (vs : List Int) (k : Int) : (look (told cs vs) k).1 = (rlook cs vs k).1 ∧ putErr (told cs vs) k = (rlook cs vs k).2 := by
  unfold putErr told
  rw [look_fold, if_neg (by unfold look; simp), ← find_zip]
  cases (cs.zip vs).find? (fun c => c.2 == k) with
  | some c => exact ⟨rfl, rfl⟩
  | none => exact ⟨rfl, rfl⟩
end Go.Proofs.Ythjfigaalknoiaa
