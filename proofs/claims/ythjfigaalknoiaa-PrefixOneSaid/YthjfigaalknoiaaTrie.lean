/- A tree of nodes made out of codes of bits, what it reads, and that it reads just these codes; plain Lean, no program in sight. -/
namespace Go.Proofs.Ythjfigaalknoiaa
structure Nd where
  z : Nat
  o : Nat
  leaf : Bool
  num : Int
deriving Inhabited

namespace Nd
def empty : Nd := ⟨0, 0, false, 0⟩
def kid (n : Nd) (x : Bool) : Nat := if x then n.o else n.z
def setKid (n : Nd) (x : Bool) (v : Nat) : Nd := if x then { n with o := v } else { n with z := v }
theorem kid_empty (x : Bool) : empty.kid x = 0 := by cases x <;> rfl
theorem kid_setKid_same (n : Nd) (x : Bool) (v : Nat) : (n.setKid x v).kid x = v := by cases x <;> rfl
theorem kid_setKid_other (n : Nd) (x y : Bool) (v : Nat) (h : y ≠ x) : (n.setKid x v).kid y = n.kid y := by cases x <;> cases y <;> first | rfl | exact absurd rfl h
theorem leaf_setKid (n : Nd) (x : Bool) (v : Nat) : (n.setKid x v).leaf = n.leaf := by cases x <;> rfl
theorem num_setKid (n : Nd) (x : Bool) (v : Nat) : (n.setKid x v).num = n.num := by cases x <;> rfl
end Nd

namespace Pt

/-- Down by bits from a node on; new nodes are laid where there is none. -/
def ins (ns : List Nd) (k : Nat) : List Bool → Option (List Nd × Nat)
  | [] => some (ns, k)
  | x :: xs =>
    if (ns.getD k Nd.empty).leaf = true then none
    else if (ns.getD k Nd.empty).kid x = 0 then ins ((ns ++ [Nd.empty]).set k ((ns.getD k Nd.empty).setKid x ns.length)) ns.length xs
    else ins ns ((ns.getD k Nd.empty).kid x) xs

def fin (ns : List Nd) (k : Nat) (v : Int) : Option (List Nd) :=
  let n := ns.getD k Nd.empty
  if n.leaf = true ∨ n.z ≠ 0 ∨ n.o ≠ 0 then none else some (ns.set k { n with leaf := true, num := v })

def put (ns : List Nd) (s : List Bool) (v : Int) : Option (List Nd) :=
  (ins ns 0 s).bind fun r => fin r.1 r.2 v

def build (ns : List Nd) : List (List Bool × Int) → Option (List Nd)
  | [] => some ns
  | c :: cs => (put ns c.1 c.2).bind fun ns' => build ns' cs

inductive Res where
  | ok (v : Int) (n : Nat)
  | more
  | code
deriving DecidableEq, Inhabited

def get (ns : List Nd) (n : Nd) (many : Nat) : List Bool → Res
  | [] => .more
  | x :: xs =>
    if n.kid x = 0 then .code
    else if (ns.getD (n.kid x) Nd.empty).leaf = true then .ok (ns.getD (n.kid x) Nd.empty).num (many + 1)
    else get ns (ns.getD (n.kid x) Nd.empty) (many + 1) xs

structure Inv (ns : List Nd) (ps : List (List Bool)) (L : List (List Bool × Int)) : Prop where
  len : ps.length = ns.length
  root : ps[0]? = some []
  inj : ∀ (i j : Nat) p, ps[i]? = some p → ps[j]? = some p → i = j
  kid : ∀ (i : Nat) n p x, ns[i]? = some n → ps[i]? = some p → n.kid x ≠ 0 → ps[n.kid x]? = some (p ++ [x])
  kid0 : ∀ (i : Nat) n p x, ns[i]? = some n → ps[i]? = some p → n.kid x = 0 → (p ++ [x]) ∉ ps
  up : ∀ p x, p ++ [x] ∈ ps → p ∈ ps
  leaf : ∀ (i : Nat) n p, ns[i]? = some n → ps[i]? = some p → n.leaf = true → (p, n.num) ∈ L
  leaf' : ∀ p v, (p, v) ∈ L → ∃ (i : Nat) (n : Nd), ps[i]? = some p ∧ ns[i]? = some n ∧ n.leaf = true

theorem getD_of_some {ns : List Nd} {k : Nat} {n : Nd} (h : ns[k]? = some n) : ns.getD k Nd.empty = n := by
  rw [List.getD_eq_getElem?_getD, h]; rfl

theorem Inv.some_of {ns : List Nd} {ps : List (List Bool)} {L : List (List Bool × Int)} (h : Inv ns ps L) {k : Nat} {p : List Bool} (hp : ps[k]? = some p) : ∃ n, ns[k]? = some n := by
  have hl : k < ns.length := by rw [← h.len]; exact (List.getElem?_eq_some_iff.1 hp).1
  exact ⟨_, List.getElem?_eq_getElem hl⟩

/-- A new node is laid. -/
theorem Inv.grow {ns : List Nd} {ps : List (List Bool)} {L : List (List Bool × Int)} {k : Nat} {p : List Bool} {n : Nd} {x : Bool} (h : Inv ns ps L) (hp : ps[k]? = some p) (hn : ns[k]? = some n) (hl : n.leaf = false) (h0 : n.kid x = 0) :
    Inv ((ns ++ [Nd.empty]).set k (n.setKid x ns.length)) (ps ++ [p ++ [x]]) L := by
  have hk : k < ns.length := (List.getElem?_eq_some_iff.1 hn).1
  have hkp : k < ps.length := by rw [h.len]; exact hk
  have hnew : p ++ [x] ∉ ps := h.kid0 k n p x hn hp h0
  have hpos : 0 < ps.length := by omega
  -- what the new list of nodes holds
  have hset : ∀ (i : Nat) m, ((ns ++ [Nd.empty]).set k (n.setKid x ns.length))[i]? = some m →
      (i = k ∧ m = n.setKid x ns.length) ∨ (i ≠ k ∧ i < ns.length ∧ ns[i]? = some m) ∨ (i = ns.length ∧ m = Nd.empty) := by
    intro i m hm
    rw [List.getElem?_set] at hm
    by_cases e : k = i
    · subst e
      rw [if_pos rfl] at hm
      split at hm
      · simp at hm; exact .inl ⟨rfl, hm.symm⟩
      · simp at hm
    · rw [if_neg e] at hm
      by_cases e2 : i < ns.length
      · rw [List.getElem?_append_left e2] at hm
        exact .inr (.inl ⟨fun e' => e e'.symm, e2, hm⟩)
      · rw [List.getElem?_append_right (by omega)] at hm
        have : i - ns.length = 0 := by
          have := (List.getElem?_eq_some_iff.1 hm).1
          simp at this; omega
        rw [this] at hm; simp at hm
        exact .inr (.inr ⟨by omega, hm.symm⟩)
  have hps : ∀ (i : Nat) q, (ps ++ [p ++ [x]])[i]? = some q → (i < ps.length ∧ ps[i]? = some q) ∨ (i = ps.length ∧ q = p ++ [x]) := by
    intro i q hq
    by_cases e2 : i < ps.length
    · rw [List.getElem?_append_left e2] at hq; exact .inl ⟨e2, hq⟩
    · rw [List.getElem?_append_right (by omega)] at hq
      have : i - ps.length = 0 := by
        have := (List.getElem?_eq_some_iff.1 hq).1
        simp at this; omega
      rw [this] at hq; simp at hq
      exact .inr ⟨by omega, hq.symm⟩
  have hlast : (ps ++ [p ++ [x]])[ns.length]? = some (p ++ [x]) := by
    rw [← h.len, List.getElem?_append_right (by omega)]; simp
  have hold : ∀ (i : Nat) q, ps[i]? = some q → (ps ++ [p ++ [x]])[i]? = some q := by
    intro i q hq
    rw [List.getElem?_append_left (List.getElem?_eq_some_iff.1 hq).1]; exact hq
  have hmem : ∀ q (i : Nat), ps[i]? = some q → q ∈ ps := fun q i hq => List.mem_of_getElem? hq
  constructor
  · simp [h.len]
  · exact hold _ _ h.root
  · intro i j q hi hj
    rcases hps i q hi with ⟨a, ha⟩ | ⟨a, ha⟩ <;> rcases hps j q hj with ⟨b, hb⟩ | ⟨b, hb⟩
    · exact h.inj i j q ha hb
    · subst hb; exact absurd (hmem _ _ ha) hnew
    · subst ha; exact absurd (hmem _ _ hb) hnew
    · omega
  · intro i m q y hm hq hne
    rcases hset i m hm with ⟨rfl, rfl⟩ | ⟨e, hlt, hm'⟩ | ⟨rfl, rfl⟩
    · have hq' : q = p := by
        rcases hps i q hq with ⟨_, ha⟩ | ⟨a, _⟩
        · rw [hp] at ha; exact (Option.some.inj ha).symm
        · omega
      subst hq'
      by_cases ey : y = x
      · subst ey; rw [Nd.kid_setKid_same]; exact hlast
      · rw [Nd.kid_setKid_other _ _ _ _ ey] at hne ⊢
        exact hold _ _ (h.kid i n q y hn hp hne)
    · rcases hps i q hq with ⟨_, ha⟩ | ⟨a, _⟩
      · exact hold _ _ (h.kid i m q y hm' ha hne)
      · rw [h.len] at a; omega
    · exact absurd (Nd.kid_empty y) hne
  · intro i m q y hm hq h0'
    intro hin
    rcases List.mem_append.1 hin with hin2 | hin2
    · rcases hset i m hm with ⟨rfl, rfl⟩ | ⟨e, hlt, hm'⟩ | ⟨rfl, rfl⟩
      · have hq' : q = p := by
          rcases hps i q hq with ⟨_, ha⟩ | ⟨a, _⟩
          · rw [hp] at ha; exact (Option.some.inj ha).symm
          · omega
        subst hq'
        by_cases ey : y = x
        · subst ey; exact hnew hin2
        · rw [Nd.kid_setKid_other _ _ _ _ ey] at h0'
          exact h.kid0 i n q y hn hp h0' hin2
      · rcases hps i q hq with ⟨_, ha⟩ | ⟨a, _⟩
        · exact h.kid0 i m q y hm' ha h0' hin2
        · rw [h.len] at a; omega
      · have hq' : q = p ++ [x] := by
          rw [hlast] at hq; exact (Option.some.inj hq).symm
        subst hq'
        exact hnew (h.up _ _ hin2)
    · have heq : q ++ [y] = p ++ [x] := by simpa using hin2
      have hqp : q = p ∧ y = x := by
        have := List.append_inj' heq rfl
        exact ⟨this.1, by simpa using this.2⟩
      obtain ⟨rfl, rfl⟩ := hqp
      have hik : i = k := by
        rcases hps i q hq with ⟨_, ha⟩ | ⟨_, ha⟩
        · exact h.inj i k q ha hp
        · have := congrArg List.length ha
          simp at this
      subst hik
      rcases hset i m hm with ⟨_, rfl⟩ | ⟨e, _, _⟩ | ⟨e, _⟩
      · rw [Nd.kid_setKid_same] at h0'; omega
      · exact e rfl
      · omega
  · intro q y hin
    rcases List.mem_append.1 hin with hin | hin
    · exact List.mem_append.2 (.inl (h.up _ _ hin))
    · have heq : q ++ [y] = p ++ [x] := by simpa using hin
      have := List.append_inj' heq rfl
      rw [this.1]; exact List.mem_append.2 (.inl (hmem _ _ hp))
  · intro i m q hm hq hlf
    rcases hset i m hm with ⟨rfl, rfl⟩ | ⟨e, hlt, hm'⟩ | ⟨rfl, rfl⟩
    · rw [Nd.leaf_setKid, hl] at hlf; exact absurd hlf (by simp)
    · rcases hps i q hq with ⟨_, ha⟩ | ⟨a, _⟩
      · exact h.leaf i m q hm' ha hlf
      · rw [h.len] at a; omega
    · exact absurd hlf (by simp [Nd.empty])
  · intro q v hin
    obtain ⟨i, m, hi, hm, hlf⟩ := h.leaf' q v hin
    have hik : i ≠ k := by
      rintro rfl
      rw [hn] at hm; cases hm; rw [hl] at hlf; exact absurd hlf (by simp)
    refine ⟨i, m, hold _ _ hi, ?_, hlf⟩
    rw [List.getElem?_set, if_neg (fun e => hik e.symm), List.getElem?_append_left (List.getElem?_eq_some_iff.1 hm).1]
    exact hm

/-- A node becomes a leaf. -/
theorem Inv.mark {ns : List Nd} {ps : List (List Bool)} {L : List (List Bool × Int)} {k : Nat} {p : List Bool} {n : Nd} (h : Inv ns ps L) (hp : ps[k]? = some p) (hn : ns[k]? = some n) (v : Int) :
    Inv (ns.set k { n with leaf := true, num := v }) ps (L ++ [(p, v)]) := by
  have hk : k < ns.length := (List.getElem?_eq_some_iff.1 hn).1
  have hset : ∀ (i : Nat) m, (ns.set k { n with leaf := true, num := v })[i]? = some m → (i = k ∧ m = { n with leaf := true, num := v }) ∨ (i ≠ k ∧ ns[i]? = some m) := by
    intro i m hm
    rw [List.getElem?_set] at hm
    by_cases e : k = i
    · subst e; rw [if_pos rfl, if_pos hk] at hm; exact .inl ⟨rfl, (Option.some.inj hm).symm⟩
    · rw [if_neg e] at hm; exact .inr ⟨fun e' => e e'.symm, hm⟩
  constructor
  · simp [h.len]
  · exact h.root
  · exact h.inj
  · intro i m q y hm hq hne
    rcases hset i m hm with ⟨rfl, rfl⟩ | ⟨_, hm'⟩
    · exact h.kid i n q y hn hq hne
    · exact h.kid i m q y hm' hq hne
  · intro i m q y hm hq hne
    rcases hset i m hm with ⟨rfl, rfl⟩ | ⟨_, hm'⟩
    · exact h.kid0 i n q y hn hq hne
    · exact h.kid0 i m q y hm' hq hne
  · exact h.up
  · intro i m q hm hq hl
    rcases hset i m hm with ⟨rfl, rfl⟩ | ⟨_, hm'⟩
    · rw [hp] at hq; cases hq; simp
    · exact List.mem_append.2 (.inl (h.leaf i m q hm' hq hl))
  · intro q u hin
    rcases List.mem_append.1 hin with hin2 | hin2
    · obtain ⟨i, m, hi, hm, hl⟩ := h.leaf' q u hin2
      by_cases e : i = k
      · subst e
        exact ⟨i, _, hi, by rw [List.getElem?_set, if_pos rfl, if_pos hk], rfl⟩
      · exact ⟨i, m, hi, by rw [List.getElem?_set, if_neg (fun e' => e e'.symm)]; exact hm, hl⟩
    · simp at hin2
      obtain ⟨rfl, rfl⟩ := hin2
      exact ⟨k, _, hp, by rw [List.getElem?_set, if_pos rfl, if_pos hk], rfl⟩

theorem Inv.closed {ns : List Nd} {ps : List (List Bool)} {L : List (List Bool × Int)} (h : Inv ns ps L) : ∀ (r p : List Bool), p ++ r ∈ ps → p ∈ ps := by
  intro r
  induction r with
  | nil => intro p hp; simpa using hp
  | cons x r ih =>
    intro p hp
    refine h.up p x (ih (p ++ [x]) ?_)
    simpa using hp

theorem Inv.in_ps {ns : List Nd} {ps : List (List Bool)} {L : List (List Bool × Int)} (h : Inv ns ps L) {p : List Bool} {v : Int} (hl : (p, v) ∈ L) : p ∈ ps := by
  obtain ⟨i, _, hi, _, _⟩ := h.leaf' p v hl
  exact List.mem_of_getElem? hi

theorem Inv.leaf_of {ns : List Nd} {ps : List (List Bool)} {L : List (List Bool × Int)} (h : Inv ns ps L) {k : Nat} {p : List Bool} {n : Nd} {v : Int} (hp : ps[k]? = some p) (hn : ns[k]? = some n) (hl : (p, v) ∈ L) : n.leaf = true := by
  obtain ⟨i, m, hi, hm, hlf⟩ := h.leaf' p v hl
  have := h.inj _ _ _ hi hp
  subst this
  rw [hn] at hm; cases hm; exact hlf

theorem ins_spec : ∀ (xs : List Bool) {ns : List Nd} {ps : List (List Bool)} {L : List (List Bool × Int)} {k : Nat} {p : List Bool}, Inv ns ps L → ps[k]? = some p →
    (ins ns k xs = none → ∃ q y r, xs = q ++ y :: r ∧ ∃ v, (p ++ q, v) ∈ L) ∧
    (∀ ns' k', ins ns k xs = some (ns', k') → ∃ ps', Inv ns' ps' L ∧ ps'[k']? = some (p ++ xs) ∧ (∀ r, r ∈ ps' ↔ r ∈ ps ∨ ∃ q, q <+: xs ∧ r = p ++ q) ∧
      (∀ q y r, xs = q ++ y :: r → ∀ v, (p ++ q, v) ∉ L)) := by
  intro xs
  induction xs with
  | nil =>
    intro ns ps L k p h hp
    refine ⟨fun e => by simp [ins] at e, ?_⟩
    intro ns' k' e
    simp [ins] at e
    obtain ⟨rfl, rfl⟩ := e
    refine ⟨ps, h, by simpa using hp, ?_, ?_⟩
    · intro r
      constructor
      · exact .inl
      · rintro (hr | ⟨q, hq, rfl⟩)
        · exact hr
        · have : q = [] := by simpa using hq
          subst this; simpa using List.mem_of_getElem? hp
    · intro q y r e; simp at e
  | cons x xs ih =>
    intro ns ps L k p h hp
    obtain ⟨n, hn⟩ := h.some_of hp
    have hg := getD_of_some hn
    simp only [ins, hg]
    by_cases hl : n.leaf = true
    · rw [if_pos hl]
      refine ⟨fun _ => ⟨[], x, xs, rfl, n.num, by simpa using h.leaf k n p hn hp hl⟩, fun _ _ e => by simp at e⟩
    · rw [if_neg hl]
      have hno : ∀ v, (p, v) ∉ L := fun v hv => hl (h.leaf_of hp hn hv)
      by_cases h0 : n.kid x = 0
      · rw [if_pos h0]
        have hg' := h.grow hp hn (by simpa using hl) h0
        have hnew : (ps ++ [p ++ [x]])[ns.length]? = some (p ++ [x]) := by rw [← h.len]; simp
        obtain ⟨i1, i2⟩ := ih hg' hnew
        refine ⟨fun e => ?_, fun ns' k' e => ?_⟩
        · obtain ⟨q, y, r, e1, v, hv⟩ := i1 e
          exact ⟨x :: q, y, r, by simp [e1], v, by simpa using hv⟩
        · obtain ⟨ps', a, b, c, d⟩ := i2 ns' k' e
          refine ⟨ps', a, by simpa using b, ?_, ?_⟩
          · intro r
            rw [c]
            constructor
            · rintro (hr | ⟨q, hq, rfl⟩)
              · rcases List.mem_append.1 hr with hr2 | hr2
                · exact .inl hr2
                · have hr3 : r = p ++ [x] := by simpa using hr2
                  exact .inr ⟨[x], by simp, hr3⟩
              · exact .inr ⟨x :: q, by simpa using hq, by simp⟩
            · rintro (hr | ⟨q, hq, rfl⟩)
              · exact .inl (List.mem_append.2 (.inl hr))
              · cases q with
                | nil => exact .inl (List.mem_append.2 (.inl (by simpa using List.mem_of_getElem? hp)))
                | cons y q =>
                  rw [List.cons_prefix_cons] at hq
                  obtain ⟨rfl, hq⟩ := hq
                  exact .inr ⟨q, hq, by simp⟩
          · intro q y r e1 v
            cases q with
            | nil => simpa using hno v
            | cons y' q =>
              simp at e1
              obtain ⟨rfl, e1⟩ := e1
              have := d q y r e1 v
              simpa using this
      · rw [if_neg h0]
        have hkid := h.kid k n p x hn hp h0
        obtain ⟨i1, i2⟩ := ih h hkid
        refine ⟨fun e => ?_, fun ns' k' e => ?_⟩
        · obtain ⟨q, y, r, e1, v, hv⟩ := i1 e
          exact ⟨x :: q, y, r, by simp [e1], v, by simpa using hv⟩
        · obtain ⟨ps', a, b, c, d⟩ := i2 ns' k' e
          refine ⟨ps', a, by simpa using b, ?_, ?_⟩
          · intro r
            rw [c]
            constructor
            · rintro (hr | ⟨q, hq, rfl⟩)
              · exact .inl hr
              · exact .inr ⟨x :: q, by simpa using hq, by simp⟩
            · rintro (hr | ⟨q, hq, rfl⟩)
              · exact .inl hr
              · cases q with
                | nil => exact .inl (by simpa using List.mem_of_getElem? hp)
                | cons y q =>
                  rw [List.cons_prefix_cons] at hq
                  obtain ⟨rfl, hq⟩ := hq
                  exact .inr ⟨q, hq, by simp⟩
          · intro q y r e1 v
            cases q with
            | nil => simpa using hno v
            | cons y' q =>
              simp at e1
              obtain ⟨rfl, e1⟩ := e1
              have := d q y r e1 v
              simpa using this

/-- What the paths are: the beginnings of the codes. -/
def Cover (ps : List (List Bool)) (L : List (List Bool × Int)) : Prop := ∀ r, r ∈ ps ↔ r = [] ∨ ∃ c ∈ L, r <+: c.1

def Apart (a b : List Bool × Int) : Prop := ¬ a.1 <+: b.1 ∧ ¬ b.1 <+: a.1

theorem put_spec {ns : List Nd} {ps : List (List Bool)} {L : List (List Bool × Int)} (h : Inv ns ps L) (hc : Cover ps L) (s : List Bool) (v : Int) (hs : s ≠ []) :
    (put ns s v = none → ∃ c ∈ L, ¬ Apart c (s, v)) ∧
    (∀ ns', put ns s v = some ns' → (∀ c ∈ L, Apart c (s, v)) ∧ ∃ ps', Inv ns' ps' (L ++ [(s, v)]) ∧ Cover ps' (L ++ [(s, v)])) := by
  obtain ⟨i1, i2⟩ := ins_spec s h h.root
  unfold put
  cases e : ins ns 0 s with
  | none =>
    refine ⟨fun _ => ?_, fun _ e' => by simp at e'⟩
    obtain ⟨q, y, r, e1, u, hu⟩ := i1 e
    refine ⟨_, hu, fun ha => ha.1 ?_⟩
    simp [e1]
  | some r =>
    obtain ⟨ns', k'⟩ := r
    obtain ⟨ps', a, b, c, d⟩ := i2 ns' k' e
    simp only [Option.bind_some]
    obtain ⟨n, hn⟩ := a.some_of b
    have hg := getD_of_some hn
    simp only [fin, hg]
    simp only [List.nil_append] at b c d
    by_cases hb : n.leaf = true ∨ n.z ≠ 0 ∨ n.o ≠ 0
    · rw [if_pos hb]
      refine ⟨fun _ => ?_, fun _ e' => by simp at e'⟩
      have kid : ∀ x, n.kid x ≠ 0 → ∃ c ∈ L, ¬ Apart c (s, v) := by
        intro x hx
        have hm := List.mem_of_getElem? (a.kid k' n s x hn b hx)
        rcases (c _).1 hm with hm | ⟨q, hq, e2⟩
        · rcases (hc _).1 hm with e3 | ⟨c, hcL, hp⟩
          · simp at e3
          · exact ⟨c, hcL, fun ha => ha.2 (List.IsPrefix.trans (List.prefix_append s [x]) hp)⟩
        · have := hq.length_le
          have h2 := congrArg List.length e2
          simp at h2; omega
      rcases hb with hl | hz | ho
      · exact ⟨_, a.leaf k' n s hn b hl, fun ha => ha.1 (List.prefix_refl s)⟩
      · exact kid false hz
      · exact kid true ho
    · rw [if_neg hb]
      refine ⟨fun e' => by simp at e', fun ns'' e' => ?_⟩
      have hlf : ¬ n.leaf = true := fun h1 => hb (.inl h1)
      have hkz : ∀ x, n.kid x = 0 := by
        intro x
        cases x
        · exact Classical.byContradiction fun h1 => hb (.inr (.inl h1))
        · exact Classical.byContradiction fun h1 => hb (.inr (.inr h1))
      refine ⟨?_, ps', ?_, ?_⟩
      · intro cc hcc
        obtain ⟨t, u⟩ := cc
        refine ⟨fun hp => ?_, fun hp => ?_⟩
        · obtain ⟨r, hr⟩ := hp
          cases r with
          | nil =>
            simp at hr; subst hr
            exact hlf (a.leaf_of b hn hcc)
          | cons y r => exact d t y r hr.symm u hcc
        · obtain ⟨r, hr⟩ := hp
          cases r with
          | nil =>
            simp at hr; subst hr
            exact hlf (a.leaf_of b hn hcc)
          | cons y r =>
            refine a.kid0 k' n s y hn b (hkz y) ((c _).2 (.inl ((hc _).2 (.inr ⟨_, hcc, ?_⟩))))
            exact ⟨r, by simpa using hr⟩
      · have := Option.some.inj e'
        subst this
        exact a.mark b hn v
      · intro r
        rw [c, hc]
        constructor
        · rintro ((h1 | ⟨cc, h1, h2⟩) | ⟨q, hq, rfl⟩)
          · exact .inl h1
          · exact .inr ⟨cc, List.mem_append.2 (.inl h1), h2⟩
          · exact .inr ⟨(s, v), by simp, hq⟩
        · rintro (h1 | ⟨cc, h1, h2⟩)
          · exact .inl (.inl h1)
          · rcases List.mem_append.1 h1 with h1 | h1
            · exact .inl (.inr ⟨cc, h1, h2⟩)
            · have : cc = (s, v) := by simpa using h1
              subst this
              exact .inr ⟨r, h2, rfl⟩

theorem build_spec : ∀ (cs : List (List Bool × Int)) {ns : List Nd} {ps : List (List Bool)} {L : List (List Bool × Int)}, Inv ns ps L → Cover ps L → (∀ c ∈ cs, c.1 ≠ []) →
    (build ns cs = none → ¬ ((∀ a ∈ L, ∀ b ∈ cs, Apart a b) ∧ cs.Pairwise Apart)) ∧
    (∀ ns', build ns cs = some ns' → ((∀ a ∈ L, ∀ b ∈ cs, Apart a b) ∧ cs.Pairwise Apart) ∧ ∃ ps', Inv ns' ps' (L ++ cs) ∧ Cover ps' (L ++ cs)) := by
  intro cs
  induction cs with
  | nil =>
    intro ns ps L h hc _
    refine ⟨fun e => by simp [build] at e, fun ns' e => ?_⟩
    simp [build] at e; subst e
    exact ⟨⟨fun a _ b hb => by simp at hb, .nil⟩, ps, by simpa using h, by simpa using hc⟩
  | cons c cs ih =>
    intro ns ps L h hc hne
    obtain ⟨s, v⟩ := c
    obtain ⟨p1, p2⟩ := put_spec h hc s v (hne (s, v) (by simp))
    simp only [build]
    cases e : put ns s v with
    | none =>
      refine ⟨fun _ => ?_, fun _ e' => by simp at e'⟩
      obtain ⟨c, hcL, hn⟩ := p1 e
      exact fun hall => hn (hall.1 c hcL (s, v) (by simp))
    | some ns1 =>
      obtain ⟨ha, ps1, h1, hc1⟩ := p2 ns1 e
      simp only [Option.bind_some]
      obtain ⟨j1, j2⟩ := ih h1 hc1 (fun c hc => hne c (by simp [hc]))
      refine ⟨fun e' => ?_, fun ns' e' => ?_⟩
      · intro hall
        refine j1 e' ⟨?_, (List.pairwise_cons.1 hall.2).2⟩
        intro a haL b hb
        rcases List.mem_append.1 haL with haL | haL
        · exact hall.1 a haL b (by simp [hb])
        · have : a = (s, v) := by simpa using haL
          subst this
          exact (List.pairwise_cons.1 hall.2).1 b hb
      · obtain ⟨⟨k1, k2⟩, ps', k3, k4⟩ := j2 ns' e'
        refine ⟨⟨?_, List.pairwise_cons.2 ⟨?_, k2⟩⟩, ps', by simpa using k3, by simpa using k4⟩
        · intro a haL b hb
          rcases List.mem_cons.1 hb with rfl | hb
          · exact ha a haL
          · exact k1 a (List.mem_append.2 (.inl haL)) b hb
        · intro b hb
          exact k1 (s, v) (by simp) b hb

theorem inv_empty : Inv [Nd.empty] [[]] [] := by
  refine ⟨rfl, rfl, ?_, ?_, ?_, ?_, ?_, ?_⟩
  · intro i j p hi hj
    have h1 := (List.getElem?_eq_some_iff.1 hi).1
    have h2 := (List.getElem?_eq_some_iff.1 hj).1
    simp at h1 h2; omega
  · intro i n p x hn hp hne
    have h1 := (List.getElem?_eq_some_iff.1 hn).1
    have : i = 0 := by simp at h1; omega
    subst this
    simp at hn; subst hn
    exact absurd (Nd.kid_empty x) hne
  · intro i n p x _ _ _; simp
  · intro p x h; simp at h
  · intro i n p hn hp hl
    have h1 := (List.getElem?_eq_some_iff.1 hn).1
    have : i = 0 := by simp at h1; omega
    subst this
    simp at hn; subst hn
    exact absurd hl (by simp [Nd.empty])
  · intro p v h; simp at h

theorem cover_empty : Cover [[]] [] := by
  intro r; simp

theorem get_spec {ns : List Nd} {ps : List (List Bool)} {L : List (List Bool × Int)} (h : Inv ns ps L) : ∀ (xs : List Bool) {k : Nat} {p : List Bool} {n : Nd} (many : Nat), ps[k]? = some p → ns[k]? = some n → n.leaf = false →
    (∀ v m, get ns n many xs = .ok v m → ∃ q r, xs = q ++ r ∧ (p ++ q, v) ∈ L ∧ m = many + q.length) ∧
    (get ns n many xs = .more → p ++ xs ∈ ps ∧ ∀ q r, xs = q ++ r → ∀ v, (p ++ q, v) ∉ L) ∧
    (get ns n many xs = .code → p ++ xs ∉ ps ∧ ∀ q r, xs = q ++ r → ∀ v, (p ++ q, v) ∉ L) := by
  intro xs
  induction xs with
  | nil =>
    intro k p n many hp hn hl
    have hno : ∀ q r : List Bool, [] = q ++ r → ∀ v, (p ++ q, v) ∉ L := by
      intro q r e v hv
      have : q = [] := by cases q with
        | nil => rfl
        | cons => simp at e
      subst this
      have := h.leaf_of hp hn (by simpa using hv)
      rw [hl] at this; exact absurd this (by simp)
    refine ⟨fun v m e => by simp [get] at e, fun _ => ⟨by simpa using List.mem_of_getElem? hp, hno⟩, fun e => by simp [get] at e⟩
  | cons x xs ih =>
    intro k p n many hp hn hl
    have hno0 : ∀ v, (p, v) ∉ L := fun v hv => by
      have := h.leaf_of hp hn hv
      rw [hl] at this; exact absurd this (by simp)
    simp only [get]
    by_cases h0 : n.kid x = 0
    · rw [if_pos h0]
      refine ⟨fun v m e => (by cases e), fun e => (by cases e), fun _ => ?_⟩
      have hout := h.kid0 k n p x hn hp h0
      have hin : ∀ t, p ++ x :: t ∉ ps := fun t ht => hout (h.closed t (p ++ [x]) (by simpa using ht))
      refine ⟨hin xs, ?_⟩
      intro q r e v hv
      cases q with
      | nil => exact hno0 v (by simpa using hv)
      | cons y q =>
        simp at e
        obtain ⟨rfl, e⟩ := e
        exact hin q (h.in_ps hv)
    · rw [if_neg h0]
      have hkid := h.kid k n p x hn hp h0
      obtain ⟨m, hm⟩ := h.some_of hkid
      rw [getD_of_some hm]
      by_cases hlm : m.leaf = true
      · rw [if_pos hlm]
        refine ⟨fun v c e => ?_, fun e => (by cases e), fun e => (by cases e)⟩
        cases e
        exact ⟨[x], xs, rfl, h.leaf _ m _ hm hkid hlm, rfl⟩
      · rw [if_neg hlm]
        obtain ⟨a, b, c⟩ := ih (many + 1) hkid hm (by simpa using hlm)
        have lift : (∀ q r, xs = q ++ r → ∀ v, (p ++ [x] ++ q, v) ∉ L) → ∀ q r, x :: xs = q ++ r → ∀ v, (p ++ q, v) ∉ L := by
          intro hh q r e v hv
          cases q with
          | nil => exact hno0 v (by simpa using hv)
          | cons y q =>
            simp at e
            obtain ⟨rfl, e⟩ := e
            exact hh q r e v (by simpa using hv)
        refine ⟨fun v c e => ?_, fun e => ?_, fun e => ?_⟩
        · obtain ⟨q, r, e1, e2, e3⟩ := a v c e
          exact ⟨x :: q, r, by simp [e1], by simpa using e2, by simp; omega⟩
        · obtain ⟨e1, e2⟩ := b e
          exact ⟨by simpa using e1, lift e2⟩
        · obtain ⟨e1, e2⟩ := c e
          exact ⟨by simpa using e1, lift e2⟩

theorem ins_leaf {ns : List Nd} {k : Nat} {n : Nd} (hn : ns[k]? = some n) (hl : n.leaf = true) (x : Bool) (xs : List Bool) : ins ns k (x :: xs) = none := by
  simp only [ins, getD_of_some hn]; rw [if_pos hl]
theorem ins_new {ns : List Nd} {k : Nat} {n : Nd} (hn : ns[k]? = some n) (hl : n.leaf = false) (x : Bool) (xs : List Bool) (h0 : n.kid x = 0) :
    ins ns k (x :: xs) = ins ((ns ++ [Nd.empty]).set k (n.setKid x ns.length)) ns.length xs := by
  simp only [ins, getD_of_some hn]; rw [if_neg (by rw [hl]; decide), if_pos h0]
theorem ins_old {ns : List Nd} {k : Nat} {n : Nd} (hn : ns[k]? = some n) (hl : n.leaf = false) (x : Bool) (xs : List Bool) (h0 : n.kid x ≠ 0) :
    ins ns k (x :: xs) = ins ns (n.kid x) xs := by
  simp only [ins, getD_of_some hn]; rw [if_neg (by rw [hl]; decide), if_neg h0]
theorem drop_bit {l : List Bool} {k : Nat} {x : Bool} (h : l[k]? = some x) : l.drop k = x :: l.drop (k + 1) := by
  obtain ⟨hk, hx⟩ := List.getElem?_eq_some_iff.1 h
  rw [List.drop_eq_getElem_cons hk, hx]

theorem put_none_of {ns : List Nd} {s : List Bool} {v : Int} (h : ins ns 0 s = none) : put ns s v = none := by simp [put, h]
theorem put_of_ins {ns ns' : List Nd} {s : List Bool} {k : Nat} {v : Int} (h : ins ns 0 s = some (ns', k)) : put ns s v = fin ns' k v := by simp [put, h]
theorem fin_none {ns : List Nd} {k : Nat} {n : Nd} (hn : ns[k]? = some n) (v : Int) (h : n.leaf = true ∨ n.z ≠ 0 ∨ n.o ≠ 0) : fin ns k v = none := by
  simp only [fin, getD_of_some hn]; rw [if_pos h]
theorem fin_some {ns : List Nd} {k : Nat} {n : Nd} (hn : ns[k]? = some n) (v : Int) (h1 : n.leaf = false) (h2 : n.z = 0) (h3 : n.o = 0) : fin ns k v = some (ns.set k { n with leaf := true, num := v }) := by
  simp only [fin, getD_of_some hn]; rw [if_neg (by rw [h1, h2, h3]; decide)]

/-- Whoever is named as a child is there. -/
def Wf (ns : List Nd) : Prop := ∀ n ∈ ns, n.z < ns.length ∧ n.o < ns.length
theorem wf_empty : Wf [Nd.empty] := by
  intro m hm
  have : m = Nd.empty := by simpa using hm
  subst this
  exact ⟨Nat.zero_lt_one, Nat.zero_lt_one⟩
theorem Wf.kid {ns : List Nd} (h : Wf ns) {k : Nat} {n : Nd} (hn : ns[k]? = some n) (x : Bool) : n.kid x < ns.length := by
  have := h n (List.mem_of_getElem? hn)
  cases x
  · exact this.1
  · exact this.2
theorem Wf.new {ns : List Nd} (h : Wf ns) {k : Nat} {n : Nd} (hn : ns[k]? = some n) (x : Bool) : Wf ((ns ++ [Nd.empty]).set k (n.setKid x ns.length)) := by
  intro m hm
  have hlen : ((ns ++ [Nd.empty]).set k (n.setKid x ns.length)).length = ns.length + 1 := by simp
  rw [hlen]
  have hpos : 0 < ns.length := by have := (List.getElem?_eq_some_iff.1 hn).1; omega
  rcases List.mem_or_eq_of_mem_set hm with hm | rfl
  · rcases List.mem_append.1 hm with hm | hm
    · have := h m hm; omega
    · have : m = Nd.empty := by simpa using hm
      subst this
      show 0 < ns.length + 1 ∧ 0 < ns.length + 1; omega
  · have := h n (List.mem_of_getElem? hn)
    cases x
    · show ns.length < ns.length + 1 ∧ n.o < ns.length + 1; omega
    · show n.z < ns.length + 1 ∧ ns.length < ns.length + 1; omega
theorem Wf.leafed {ns : List Nd} (h : Wf ns) {k : Nat} {n : Nd} (hn : ns[k]? = some n) (v : Int) : Wf (ns.set k { n with leaf := true, num := v }) := by
  intro m hm
  rw [List.length_set]
  rcases List.mem_or_eq_of_mem_set hm with hm | rfl
  · exact h m hm
  · exact h n (List.mem_of_getElem? hn)

end Pt

end Go.Proofs.Ythjfigaalknoiaa
