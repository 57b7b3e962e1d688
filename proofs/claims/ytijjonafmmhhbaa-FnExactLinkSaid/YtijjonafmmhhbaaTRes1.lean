/- Resolve: the plain law: a table of names finds what a search finds. No condition. -/
import Derived.Test.YtijjonafmmhhbaaTMod3
import Derived.Test.YtijjonafmmhhbaaTStr
namespace Go.Proofs.Ytijjonafmmhhbaa.Ab
set_option linter.unusedVariables false
set_option linter.unusedSimpArgs false

theorem ba_ext {a b : ByteArray} (h : a.data.toList = b.data.toList) : a = b := by
  cases a; cases b
  simp only at h
  congr
  exact Array.toList_inj.1 h
theorem ba_beq2 (a b : ByteArray) : (a.toList == b.toList) = decide (a = b) := by
  rw [ByteArray.toList_eq, ByteArray.toList_eq]
  rw [Bool.eq_iff_iff]
  simp only [beq_iff_eq, decide_eq_true_eq]
  exact ⟨ba_ext, fun h => by rw [h]⟩

/-- What is found: the module's place, and the export. -/
def findEx (b : ByteArray) (l : List Ex) : Option Ex := l.find? fun e => decide (e.n = b)
def firstM (ms : List Mo) (a : ByteArray) : Option Nat := ms.findIdx? fun m => decide (m.name = a)
def resG (ms : List Mo) (a b : ByteArray) : Option (Nat × Ex) := (firstM ms a).bind fun k => (ms[k]?).bind fun m => (findEx b m.exps).map fun e => (k, e)
def resolveF (ms : List Mo) (s : ByteArray) : Option (Nat × Ex) := match decide (ms.length ≤ 4) && fullOk s && ms.all fun m => decide (m.exps.length ≤ 16) with
  | true => resG ms (headS s) (tailS s)
  | false => none
def tgtV (p : Nat × Ex) : Value := .agg #[.int .i64 p.1, .int .i64 p.2.bank, .int .i64 p.2.pos]
def resV : Option (Nat × Ex) → AV
  | none => .tup [.agg [.v (.int .i64 0), .v (.int .i64 0), .v (.int .i64 0)], .v (.bool false)]
  | some p => .tup [.agg [.v (.int .i64 p.1), .v (.int .i64 p.2.bank), .v (.int .i64 p.2.pos)], .v (.bool true)]

/-! ### The search -/

theorem resG_none {ms : List Mo} {a b : ByteArray} (h : ∀ m ∈ ms, m.name ≠ a) : resG ms a b = none := by
  have : firstM ms a = none := by
    unfold firstM
    rw [List.findIdx?_eq_none_iff]
    intro m hm
    simpa using h m hm
  simp [resG, this]
theorem resG_at {ms : List Mo} {a b : ByteArray} {i : Nat} {m : Mo} (hm : ms[i]? = some m) (ha : m.name = a) (h : ∀ k < i, ∀ q, ms[k]? = some q → q.name ≠ a) : resG ms a b = (findEx b m.exps).map fun e => (i, e) := by
  obtain ⟨hi, he⟩ := List.getElem?_eq_some_iff.1 hm
  have : firstM ms a = some i := by
    unfold firstM
    rw [List.findIdx?_eq_some_iff_getElem]
    refine ⟨hi, by simpa [he] using ha, fun j hj => ?_⟩
    simpa using h j hj _ (List.getElem?_eq_getElem (by omega))
  simp [resG, this, hm]
theorem findEx_at {b : ByteArray} {l : List Ex} {i : Nat} {e : Ex} (he : l[i]? = some e) (hn : e.n = b) (h : ∀ k < i, ∀ q, l[k]? = some q → q.n ≠ b) : findEx b l = some e := by
  obtain ⟨hi, hh⟩ := List.getElem?_eq_some_iff.1 he
  unfold findEx
  rw [List.find?_eq_some_iff_getElem]
  refine ⟨by simpa using hn, i, hi, hh, fun j hj => ?_⟩
  simpa using h j hj _ (List.getElem?_eq_getElem (by omega))
theorem findEx_none {b : ByteArray} {l : List Ex} (h : ∀ e ∈ l, e.n ≠ b) : findEx b l = none := by
  unfold findEx
  rw [List.find?_eq_none]
  intro e he
  simpa using h e he

/-! ### The table -/

def keyOf (nm : ByteArray) (e : Ex) : ByteArray := nm ++ strD ++ e.n
def seenB (ms : List Mo) (i : Nat) (q : ByteArray) : Bool := (ms.take i).any fun m => decide (m.name = q)
def findKey (q : ByteArray) (nm : ByteArray) (l : List Ex) : Option Ex := l.find? fun e => decide (keyOf nm e = q)
def namesP (ms : List Mo) : Nat → ByteArray → Option (Nat × Ex)
  | 0, _ => none
  | i + 1, q => match ms[i]? with
    | some m => (namesP ms i q).or (match seenB ms i m.name with | true => none | false => (findKey q m.name m.exps).map fun e => (i, e))
    | none => namesP ms i q
theorem mapFind_set {k q : MK} {x : Value} : ∀ {l : List (MK × Value)}, mapFind q (mapSet k x l) = if k = q then some x else mapFind q l
  | [] => by simp only [mapSet, mapFind]
  | (a, v) :: l => by
    unfold mapSet
    by_cases h : a = k
    · subst h
      simp only [if_true, mapFind]
      split <;> rfl
    · rw [if_neg h]
      simp only [mapFind]
      rw [mapFind_set]
      by_cases h2 : a = q
      · subst h2
        rw [if_pos rfl, if_neg (fun e => h e.symm), if_pos rfl]
      · rw [if_neg h2, if_neg h2]

theorem low_ne46 {b : UInt8} (h : azB b = true) : b ≠ 46 := by
  rintro rfl
  revert h
  decide
theorem name_no46 {s : ByteArray} (h : nameOk s = true) (k : Nat) : s.data.toList[k]? ≠ some 46 := by
  intro hk
  simp only [nameOk, Bool.and_eq_true] at h
  exact low_ne46 (List.all_eq_true.1 h.1 _ (List.mem_of_getElem? hk)) rfl
theorem data_app (a b : ByteArray) : (a ++ b).data.toList = a.data.toList ++ b.data.toList := by
  rw [ByteArray.data_append, Array.toList_append]
theorem data_ext (s : ByteArray) (a b : Nat) : (s.extract a b).data.toList = (s.data.toList.take b).drop a := by
  rw [ByteArray.data_extract, Array.toList_extract, List.extract_eq_drop_take']
theorem full_split {s : ByteArray} (h : fullOk s = true) : nameOk (headS s) = true ∧ nameOk (tailS s) = true ∧ ∃ p : Nat, dotI s = p ∧ p < s.size ∧ s.data.toList[p]? = some 46 ∧ ∀ k < p, s.data.toList[k]? ≠ some 46 := by
  simp only [fullOk, Bool.and_eq_true, decide_eq_true_eq] at h
  obtain ⟨⟨h1, h2⟩, h3⟩ := h
  obtain ⟨p, hp⟩ := Int.eq_ofNat_of_zero_le h1
  exact ⟨h2, h3, p, hp, dotI_lt hp⟩
/-- A name, a dot and a name is so in one way alone. -/
theorem key_eq {s : ByteArray} (h : fullOk s = true) (nm : ByteArray) (e : Ex) : keyOf nm e = s ↔ (nm = headS s ∧ e.n = tailS s) := by
  obtain ⟨n1, n2, p, hp, hlt, h46, hno⟩ := full_split h
  have e0 : (dotI s).toNat = p := by omega
  have hs : s.size = s.data.toList.length := by simp
  have hd : s.data.toList = (headS s).data.toList ++ ([46] ++ (tailS s).data.toList) := by
    simp only [headS, tailS, e0, data_ext, List.drop_zero]
    rw [hs, List.take_length]
    have h1 := (List.getElem?_eq_some_iff.1 h46)
    obtain ⟨g1, g2⟩ := h1
    conv => lhs; rw [← List.take_append_drop p s.data.toList, List.drop_eq_getElem_cons g1, g2]
    rfl
  have hl : (headS s).data.toList.length = p := by
    simp only [headS, e0, data_ext, List.drop_zero, List.length_take]
    omega
  have key : (keyOf nm e).data.toList = nm.data.toList ++ ([46] ++ e.n.data.toList) := by
    simp only [keyOf, data_app, List.append_assoc]
    rfl
  constructor
  · intro q
    have q1 : nm.data.toList ++ ([46] ++ e.n.data.toList) = (headS s).data.toList ++ ([46] ++ (tailS s).data.toList) := by rw [← key, ← hd, q]
    have hlen : nm.data.toList.length = p := by
      rcases Nat.lt_trichotomy nm.data.toList.length p with r | r | r
      · exfalso
        have g : s.data.toList[nm.data.toList.length]? = some 46 := by
          rw [hd, ← q1, List.getElem?_append_right (Nat.le_refl _), Nat.sub_self]
          rfl
        exact hno _ r g
      · exact r
      · exfalso
        have g : (keyOf nm e).data.toList[nm.data.toList.length]? = some 46 := by
          rw [key, List.getElem?_append_right (Nat.le_refl _), Nat.sub_self]
          rfl
        rw [q, hd, List.getElem?_append_right (by omega), hl] at g
        obtain ⟨j, hj⟩ : ∃ j, nm.data.toList.length - p = j + 1 := ⟨nm.data.toList.length - p - 1, by omega⟩
        rw [hj] at g
        exact name_no46 n2 j (by simpa using g)
    obtain ⟨r1, r2⟩ := List.append_inj q1 (by rw [hlen, hl])
    exact ⟨ba_ext r1, ba_ext (by simpa using r2)⟩
  · rintro ⟨rfl, r2⟩
    refine ba_ext ?_
    rw [key, r2, ← hd]
theorem names_res {ms : List Mo} {s : ByteArray} (h : fullOk s = true) : ∀ i, i ≤ ms.length → namesP ms i s = resG (ms.take i) (headS s) (tailS s)
  | 0, _ => by
    rw [List.take_zero, resG_none (by simp)]
    rfl
  | i + 1, hi => by
    have ih := names_res (ms := ms) h i (by omega)
    have hm : ms[i]? = some ms[i] := List.getElem?_eq_getElem (by omega)
    generalize ms[i] = m at hm
    have htk : ms.take (i + 1) = ms.take i ++ [m] := by rw [List.take_add_one, hm]; rfl
    have hgi : (ms.take (i + 1))[i]? = some m := by rw [List.getElem?_take]; simp [hm]
    have hpre : ∀ k < i, ∀ q : Mo, (ms.take (i + 1))[k]? = some q → q ∈ ms.take i := by
      intro k hk q hq
      rw [htk, List.getElem?_append_left (by simp; omega)] at hq
      exact List.mem_of_getElem? hq
    simp only [namesP, hm]
    by_cases ha : m.name = headS s
    · have hfk : findKey s m.name m.exps = findEx (tailS s) m.exps := by
        unfold findKey findEx
        congr
        funext e
        rw [decide_eq_decide, key_eq h]
        simp [ha]
      cases hsn : seenB ms i m.name with
      | false =>
        have hn : ∀ q ∈ ms.take i, q.name ≠ headS s := by
          intro q hq e
          have : seenB ms i m.name = true := List.any_eq_true.2 ⟨q, hq, by simp [e, ha]⟩
          rw [hsn] at this
          cases this
        rw [ih, resG_none hn, resG_at hgi ha (fun k hk q hq => hn q (hpre k hk q hq)), hfk]
        rfl
      | true =>
        rw [ih]
        simp only [Option.or_none]
        obtain ⟨q, hq, hqn⟩ := List.any_eq_true.1 hsn
        simp only [decide_eq_true_eq] at hqn
        have hf : ∃ k, firstM (ms.take i) (headS s) = some k := by
          cases hh : firstM (ms.take i) (headS s) with
          | some k => exact ⟨k, rfl⟩
          | none =>
            unfold firstM at hh
            rw [List.findIdx?_eq_none_iff] at hh
            have := hh q hq
            simp [hqn, ha] at this
        obtain ⟨k, hk⟩ := hf
        have hk2 : firstM (ms.take (i + 1)) (headS s) = some k := by
          unfold firstM at hk ⊢
          rw [htk, List.findIdx?_append, hk]
          rfl
        have hkl : k < i := by
          unfold firstM at hk
          rw [List.findIdx?_eq_some_iff_getElem] at hk
          obtain ⟨h1, _⟩ := hk
          simp at h1
          omega
        unfold resG
        rw [hk, hk2]
        simp only [Option.bind_some]
        rw [htk, List.getElem?_append_left (by simp; omega)]
    · have hfk : findKey s m.name m.exps = none := by
        unfold findKey
        rw [List.find?_eq_none]
        intro e _
        simp only [decide_eq_true_eq, key_eq h]
        simp [ha]
      have : (match seenB ms i m.name with | true => none | false => (findKey s m.name m.exps).map fun e => (i, e)) = (none : Option (Nat × Ex)) := by
        rw [hfk]
        split <;> rfl
      rw [this, Option.or_none, ih]
      have hfm : firstM (ms.take (i + 1)) (headS s) = firstM (ms.take i) (headS s) := by
        unfold firstM
        rw [htk, List.findIdx?_append]
        simp [ha]
      unfold resG
      rw [hfm]
      cases hh : firstM (ms.take i) (headS s) with
      | none => rfl
      | some k =>
        have hkl : k < i := by
          unfold firstM at hh
          rw [List.findIdx?_eq_some_iff_getElem] at hh
          obtain ⟨h1, _⟩ := hh
          simp at h1
          omega
        simp only [Option.bind_some]
        rw [htk, List.getElem?_append_left (by simp; omega)]
/-- One export more. -/
theorem key_step {q nm : ByteArray} {l : List Ex} {j : Nat} {e : Ex} (h : l[j]? = some e) : findKey q nm (l.take (j + 1)) = (findKey q nm (l.take j)).or (match decide (keyOf nm e = q) with | true => some e | false => none) := by
  unfold findKey
  rw [List.take_add_one, h, List.find?_append]
  simp only [Option.toList, List.find?]
  rfl
end Go.Proofs.Ytijjonafmmhhbaa.Ab
