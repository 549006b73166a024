/- strings.FieldsSeq over a text of ASCII alone hands on its fields, one behind the other: its iterator, for every loop body. -/
import Derived.Test.YthjfigaalknoiaaDoorFrom
set_option linter.unusedVariables false
set_option linter.unusedSimpArgs false
namespace Go.Proofs.YthjfigaalknoiaaDoor
open Go.RowKit Go.Proofs.YthjfigaalknoiaaDoorW.PrintWords
attribute [local go_sem] Oper.semAt_some

def isSp (b : UInt8) : Bool := b == 9 || b == 10 || b == 11 || b == 12 || b == 13 || b == 32
/-- The fields of what is left, behind the start of one. -/
def fieldsFrom (cur : List UInt8) : List UInt8 → List (List UInt8)
  | [] => if cur = [] then [] else [cur]
  | b :: rest => if isSp b then (if cur = [] then fieldsFrom [] rest else cur :: fieldsFrom [] rest) else fieldsFrom (cur ++ [b]) rest
/-- Where the table of ASCII's spaces lies, each entry. -/
def Spaces (W : World) : Prop := ∀ b : UInt8, W.cell? ⟨0, b.toNat, none⟩ = some (.int .u8 (if isSp b then 1 else 0))

theorem extract_mid {s : ByteArray} {A cur rest : List UInt8} (h : s.data.toList = A ++ cur ++ rest) : s.extract A.length (A.length + cur.length) = ⟨cur.toArray⟩ := by
  apply ByteArray.ext
  apply Array.toList_inj.1
  rw [ByteArray.data_extract, Array.toList_extract, h]
  simp [List.extract]

theorem fseq_any (s : ByteArray) (w : World) :
    Calls Tryd.prog 37 #[.string s] w fun e w' => e = .returned (.func (.func 46) #[] #[.pointer (some ⟨w.heap.size, 0, none⟩)]) ∧ w.alloc (.cells #[.string s] 9) = w' := by
  go_enter Tryd.func37, Tryd.ntmps37
  go_wp2
  go_ret
  exact ⟨rfl, rfl⟩

set_option maxRecDepth 100000 in
set_option maxHeartbeats 4000000 in
theorem fields_in (n l bx : Nat) (s : ByteArray) (J : Nat → World → Prop) (Jx : World → Prop) (fs : List (List UInt8)) (hfs : fieldsFrom [] s.data.toList = fs) (hs : s.size ≤ 100000) (hasc : ∀ b ∈ s.data.toList, b.toNat < 128)
    (hJf : ∀ k W, J k W → W.cell? ⟨bx, 0, none⟩ = some (.string s) ∧ Spaces W)
    (hY : ∀ k W f, J k W → fs[k]? = some f → YieldAt Fence.wide (n - 1) Tryd.prog l #[.string ⟨f.toArray⟩] W fun e W' => (e = .returned (.bool true) ∧ J (k + 1) W') ∨ (e = .returned (.bool false) ∧ Jx W'))
    (W : World) (h0 : J 0 W) :
    CallsIn Fence.wide n Tryd.prog 46 #[.func (.yield l) #[] #[], .pointer (some ⟨bx, 0, none⟩)] W fun e W' => (∃ v, e = .returned v) ∧ (J fs.length W' ∨ Jx W') := by
  refine callsIn_of_wp Tryd.func46 rfl trivial ?_ rfl
  simp only [Tryd.ntmps46, List.size_toArray, List.length_cons, List.length_nil, Nat.reduceAdd, Nat.reduceSub, Array.replicate_succ, Array.replicate_zero, List.push_toArray, List.append_toArray, List.nil_append, List.cons_append]
  have HJf := Lib.hid hJf
  have HY := Lib.hid hY
  have HF := Lib.hid hfs
  have HJ0 := Lib.hid h0
  have HASC := Lib.hid hasc
  clear hJf hY hfs h0 hasc
  gi_wp2
  gi_loopw [3, 4] (fun st i wr => ∃ (k cnt : Nat) (A cur rest : List UInt8), Hid (s.data.toList = A ++ cur ++ rest) ∧ Hid (A.length + cur.length = k) ∧ k ≤ s.size ∧ Hid (fieldsFrom cur rest = fs.drop cnt) ∧ i = .int .i64 k ∧ st = .int .i64 (if cur = [] then -1 else (A.length : Int)) ∧ Hid (cnt ≤ fs.length) ∧ Hid (J cnt wr)) (fun _ i _ => s.size - (intOf i).toNat)
  case atStart => exact ⟨0, 0, [], [], s.data.toList, Lib.hid rfl, Lib.hid rfl, Nat.zero_le _, by rw [List.drop_zero]; exact HF, rfl, rfl, Lib.hid (Nat.zero_le _), HJ0⟩
  case round =>
    obtain ⟨k, cnt, A, cur, rest, HS, HK, hk, HFF, rfl, rfl, HC, HJ⟩ := hrel
    obtain ⟨hbx, hsp⟩ := HJf.out _ _ HJ.out
    have hsz : s.size = A.length + cur.length + rest.length := by
      have := congrArg List.length HS.out
      simp only [List.length_append, Array.length_toList] at this
      exact this
    have HSZ := Lib.hid hsz
    clear hsz
    cases rest with
    | nil =>
      have hks : k = s.size := by have := HSZ.out; have := HK.out; simp at *; omega
      subst hks
      cases cur with
      | nil =>
        simp only [if_true]
        have hz : fs.drop cnt = [] := by rw [← HFF.out]; rfl
        have hcl : cnt = fs.length := by
          have h1 := List.drop_eq_nil_iff.1 hz
          have h2 := HC.out
          omega
        have HCL := Lib.hid hcl
        clear hcl hz
        gi_wp2
        refine bodyPost_end (results_none rfl _ _ _) rfl ?_
        exact ⟨⟨_, rfl⟩, .inl (by rw [← HCL.out]; exact HJ.out)⟩
      | cons c cs =>
        rw [if_neg (by simp)]
        have hne : fs[cnt]? = some (c :: cs) := by
          have : (fs.drop cnt)[0]? = some (c :: cs) := by rw [← HFF.out]; rfl
          rw [List.getElem?_drop] at this
          exact this
        have hend : fs.length = cnt + 1 := by
          have := congrArg List.length HFF.out
          simp [fieldsFrom] at this
          omega
        obtain ⟨a0, ha0⟩ : ∃ a0, A.length = a0 := ⟨_, rfl⟩
        have hext : s.extract a0 s.size = ⟨(c :: cs).toArray⟩ := by
          have := extract_mid HS.out
          rw [HK.out, ha0] at this
          exact this
        have hle : a0 ≤ s.size := by have := HSZ.out; omega
        rw [ha0]
        obtain ⟨fn, tmps, assign, body, hy, hR⟩ := HY.out cnt wr (c :: cs) HJ.out hne
        have HEND := Lib.hid hend
        clear hne hend ha0
        gi_wp2
        refine ⟨fun h => by simp [Fence.wide] at h, ?_⟩
        refine hR.mono ?_
        rintro e W3 (⟨rfl, hJ3⟩ | ⟨rfl, hJx⟩)
        · have HJ3 := Lib.hid hJ3
          clear hJ3 hy hR
          gi_wp2
          refine bodyPost_end (results_none rfl _ _ _) rfl ?_
          exact ⟨⟨_, rfl⟩, .inl (by rw [HEND.out]; exact HJ3.out)⟩
        · have HJx := Lib.hid hJx
          clear hJx hy hR
          gi_wp2
          refine bodyPost_end (results_none rfl _ _ _) rfl ?_
          exact ⟨⟨_, rfl⟩, .inr HJx.out⟩
    | cons b rest =>
      have hlt : k < s.size := by have := HSZ.out; have := HK.out; simp at *; omega
      have hsk : s[k] = b := by
        have h1 : s.data.toList[k]? = some b := by
          rw [HS.out, List.getElem?_append_right (by have := HK.out; simp; omega)]
          have := HK.out
          simp [this]
        have h2 : s.data.toList[k]? = some s[k] := by
          rw [List.getElem?_eq_getElem (by simpa using hlt)]; rfl
        rw [h1] at h2
        exact (Option.some.inj h2).symm
      have hb128 : (b.toNat : Int) < 128 := by
        have := HASC.out b (by rw [HS.out]; simp)
        omega
      have hcell := hsp b
      have HSP := Lib.hid hsp
      clear hsp
      by_cases hb : isSp b = true
      · rw [if_pos hb] at hcell
        have HSB := Lib.hid hb
        clear hb
        cases cur with
        | nil =>
          simp only [if_true]
          have HN : Hid (fieldsFrom [] rest = fs.drop cnt) := Lib.hid (by rw [← HFF.out]; simp [fieldsFrom, HSB.out])
          have HS2 : Hid (s.data.toList = (A ++ [b]) ++ [] ++ rest) := Lib.hid (by rw [HS.out]; simp)
          have HK2 : Hid ((A ++ [b]).length + ([] : List UInt8).length = k + 1) := Lib.hid (by have := HK.out; simp at *; omega)
          gi_wp2
          exact ⟨⟨k + 1, cnt, A ++ [b], [], rest, HS2, HK2, by omega, HN, by go_num, rfl, HC, HJ⟩, by simp [intOf]; omega⟩
        | cons c cs =>
          rw [if_neg (by simp)]
          have hff : fs.drop cnt = (c :: cs) :: fieldsFrom [] rest := by rw [← HFF.out]; simp [fieldsFrom, HSB.out]
          have hne : fs[cnt]? = some (c :: cs) := by
            have : (fs.drop cnt)[0]? = some (c :: cs) := by rw [hff]; rfl
            rw [List.getElem?_drop] at this
            exact this
          have HN : Hid (fieldsFrom [] rest = fs.drop (cnt + 1)) := Lib.hid (by
            have : (fs.drop cnt).drop 1 = fieldsFrom [] rest := by rw [hff]; rfl
            rw [List.drop_drop] at this
            exact this.symm)
          have HS2 : Hid (s.data.toList = (A ++ (c :: cs) ++ [b]) ++ [] ++ rest) := Lib.hid (by rw [HS.out]; simp)
          have HK2 : Hid ((A ++ (c :: cs) ++ [b]).length + ([] : List UInt8).length = k + 1) := Lib.hid (by have := HK.out; simp at *; omega)
          obtain ⟨a0, ha0⟩ : ∃ a0, A.length = a0 := ⟨_, rfl⟩
          have hext : s.extract a0 k = ⟨(c :: cs).toArray⟩ := by
            have := extract_mid HS.out
            rw [HK.out, ha0] at this
            exact this
          have hle : a0 ≤ k := by have := HK.out; omega
          have hle2 : (a0 : Int) ≤ (k : Int) := by omega
          rw [ha0]
          obtain ⟨fn, tmps, assign, body, hy, hR⟩ := HY.out cnt wr (c :: cs) HJ.out hne
          have HC2 : Hid (cnt + 1 ≤ fs.length) := Lib.hid (List.getElem?_eq_some_iff.1 hne).1
          clear hne hff ha0
          gi_wp2
          refine ⟨fun h => by simp [Fence.wide] at h, ?_⟩
          refine hR.mono ?_
          rintro e W3 (⟨rfl, hJ3⟩ | ⟨rfl, hJx⟩)
          · have HJ3 := Lib.hid hJ3
            clear hJ3 hy hR hext
            gi_wp2
            exact ⟨⟨k + 1, cnt + 1, A ++ (c :: cs) ++ [b], [], rest, HS2, HK2, by omega, HN, by go_num, rfl, HC2, HJ3⟩, by simp [intOf]; omega⟩
          · have HJx := Lib.hid hJx
            clear hJx hy hR hext
            gi_wp2
            refine bodyPost_ret (results_none rfl _ _ _) rfl ?_
            exact ⟨⟨_, rfl⟩, .inr HJx.out⟩
      · have hbf : isSp b = false := by simpa using hb
        rw [hbf] at hcell
        simp only [Bool.false_eq_true, if_false] at hcell
        have HN : Hid (fieldsFrom (cur ++ [b]) rest = fs.drop cnt) := Lib.hid (by rw [← HFF.out]; simp [fieldsFrom, hbf])
        clear hb hbf
        have HS2 : Hid (s.data.toList = A ++ (cur ++ [b]) ++ rest) := Lib.hid (by rw [HS.out]; simp)
        have HK2 : Hid (A.length + (cur ++ [b]).length = k + 1) := Lib.hid (by have := HK.out; simp at *; omega)
        have hne2 : ¬ cur ++ [b] = [] := by simp
        cases cur with
        | nil =>
          simp only [if_true]
          have hAk : A.length = k := by have := HK.out; simpa using this
          gi_wp2
          exact ⟨⟨k + 1, cnt, A, [] ++ [b], rest, HS2, HK2, by omega, HN, by go_num, by rw [if_neg hne2, hAk], HC, HJ⟩, by simp [intOf]; omega⟩
        | cons c cs =>
          rw [if_neg (by simp)]
          obtain ⟨a0, ha0⟩ : ∃ a0, A.length = a0 := ⟨_, rfl⟩
          rw [ha0]
          gi_wp2
          exact ⟨⟨k + 1, cnt, A, c :: cs ++ [b], rest, HS2, HK2, by omega, HN, by go_num, by rw [if_neg hne2, ha0], HC, HJ⟩, by simp [intOf]; omega⟩
end Go.Proofs.YthjfigaalknoiaaDoor
