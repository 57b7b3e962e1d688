/- Functions walked, part 9. No condition. -/
import Derived.Test.YtbfjkjdbdejnmaaGreatWalk3
import Derived.Test.YtbfjkjdbdejnmaaGreatWalk8
import Derived.Test.YtbfjkjdbdejnmaaGreatWalk6
import Derived.Test.YtbfjkjdbdejnmaaGreatWalk7
set_option linter.unusedVariables false
set_option linter.unusedSimpArgs false
/- Modules: marked. No condition. -/
namespace Go.Proofs.YtbfjkjdbdejnmaaGreat.Ab
set_option linter.unusedVariables false
set_option linter.unusedSimpArgs false

/-! ### The text of a mark -/

def digs (n : Nat) (out : ByteArray) : ByteArray := if n = 0 then out else digs (n / 10) (bytesS [IntKind.u8.wrap (IntKind.i64.wrap (48 + (n : Int).tmod 10))] ++ out)
def mkText (k : Int) : ByteArray := if k ≤ 0 then ⟨#[109, 48]⟩ else ⟨#[109]⟩ ++ digs k.toNat .empty
def hMkText : CH := fun args hl K => match args, hl with
  | [.v (.int .i64 k)], [] => 0 ≤ k ∧ k ≤ 1200000000000 ∧ K (.v (.string (mkText k))) []
  | _, _ => False
def cx_s_markText : Ctx := mkC []
theorem cx_s_markText_ok : CtxOk Tryz.prog cx_s_markText := cx0_ok
set_option maxRecDepth 100000 in
set_option pp.maxSteps 1500 in
set_option maxHeartbeats 4000000 in
theorem s_markText : HSound Tryz.prog 55 (callM [] false hMkText) := by
  refine callM_sound cx_s_markText_ok mixed Tryz.func55 rfl fun args hl K hp => ?_
  unfold hMkText at hp
  split at hp
  · rename_i k
    obtain ⟨h0, h1, hp⟩ := hp
    obtain ⟨n, rfl⟩ := Int.eq_ofNat_of_zero_le h0
    refine And.intro (fun h2 => ?_) (fun h2 => ?_)
    · have h2 := of_decide_eq_true h2
      rw [show mkText (n : Int) = ⟨#[109, 48]⟩ from if_pos h2] at hp
      exact hp
    have h2 := of_decide_eq_false h2
    rw [show mkText (n : Int) = ⟨#[109]⟩ ++ digs n .empty from if_neg h2] at hp
    refine Exists.intro true (Exists.intro [0, 3] (Exists.intro (fun m vs h => ∃ (q : Nat) (out : ByteArray), q = m ∧ out.size + q ≤ n ∧ digs q out = digs n .empty ∧ vs = [.v (.int .i64 q), .v (.string out)] ∧ h = []) (And.intro ?_ ?_)))
    · refine Exists.intro [] (Exists.intro n ?_)
      exact ⟨n, .empty, rfl, by simp, rfl, rfl, rfl⟩
    · intro m vs h hI
      obtain ⟨q, out, rfl, hs, hd, rfl, rfl⟩ := hI
      refine And.intro (fun h3 => ?_) (fun h3 => ?_)
      · have h3 := of_decide_eq_true h3
        refine And.intro (by decide) ?_
        refine Exists.intro _ (And.intro rfl (And.intro rfl (And.intro (by intro e he x hx; simp at he; subst he; simp at hx; subst hx; rfl) ?_)))
        refine Exists.intro [IntKind.u8.wrap (IntKind.i64.wrap (48 + (q : Int).tmod 10))] (And.intro rfl ?_)
        refine And.intro (show (bytesS [_]).size + out.size ≤ _ by rw [show (bytesS [IntKind.u8.wrap (IntKind.i64.wrap (48 + (q : Int).tmod 10))]).size = 1 from rfl]; omega) ?_
        refine And.intro (by decide) ?_
        refine Exists.intro [] (Exists.intro (q / 10) (And.intro (by omega) ⟨q / 10, bytesS [IntKind.u8.wrap (IntKind.i64.wrap (48 + (q : Int).tmod 10))] ++ out, rfl, ?_, ?_, ?_, rfl⟩))
        · rw [ByteArray.size_append, show (bytesS [IntKind.u8.wrap (IntKind.i64.wrap (48 + (q : Int).tmod 10))]).size = 1 from rfl]
          omega
        · rw [← hd]
          conv => rhs; rw [digs]
          rw [if_neg (by omega)]
        · have : IntKind.i64.wrap ((q : Int).tdiv 10) = ((q / 10 : Nat) : Int) := by
            rw [Int.tdiv_eq_ediv_of_nonneg (by omega), wrap64 (by omega)]
            omega
          rw [this]
      · have h3 := of_decide_eq_false h3
        have : q = 0 := by omega
        subst this
        rw [show digs 0 out = out by rw [digs]; rfl] at hd
        subst hd
        refine And.intro (by rw [show ({ data := #[109] } : ByteArray).size = 1 from rfl]; omega) ?_
        exact hp
  · exact hp.elim

/-! ### Strings -/

def marksString (k : Int) (n : Nat) : List ByteArray := (List.range n).map fun i : Nat => mkText (k + (i : Int))
theorem mark_stepString (bs : List ByteArray) (k : Int) (i : Nat) (h : i < bs.length) : ((marksString k i ++ bs.drop i).map strC).set i (strC (mkText (k + (i : Int)))) = (marksString k (i + 1) ++ bs.drop (i + 1)).map strC := by
  have hl : ((marksString k i).map strC).length = i := by simp [marksString]
  rw [List.map_append, List.set_append_right _ _ (by omega), hl, Nat.sub_self, List.drop_eq_getElem_cons h, List.map_cons, List.set_cons_zero]
  simp [marksString, List.range_succ]
def hMarkString : CH := fun args hl K => match args, hl with
  | [.slc 0 0 n _, .v (.int .i64 k)], [.lst 1 L] => ∃ bs : List ByteArray, L = bs.map strC ∧ n = bs.length ∧ bs.length ≤ 1048576 ∧ 0 ≤ k ∧ k ≤ 1099511627776 ∧ K (.v (.int .i64 (k + n))) [.lst 1 ((marksString k n).map strC)]
  | _, _ => False
def cx_s_markStringS : Ctx := mkC [(55, callM [] false hMkText)]
theorem cx_s_markStringS_ok : CtxOk Tryz.prog cx_s_markStringS := mkC_ok (mem1 ⟨s_markText, fnOk Tryz.func55 rfl rfl⟩ mem0)
set_option maxRecDepth 100000 in
set_option pp.maxSteps 1500 in
set_option maxHeartbeats 4000000 in
theorem s_markStringS : HSound Tryz.prog 59 (callM [.rw] false hMarkString) := by
  refine callM_sound cx_s_markStringS_ok mixed Tryz.func59 rfl fun args hl K hp => ?_
  unfold hMarkString at hp
  split at hp
  · rename_i n z0 k _
    obtain ⟨bs, rfl, rfl, hb, hk0, hk1, hp⟩ := hp
    refine Exists.intro false (Exists.intro [0, 1, 5] (Exists.intro (fun m vs h => ∃ i : Nat, i ≤ bs.length ∧ m = bs.length - i ∧ (∃ z, vs = [.slc 0 0 bs.length z, .v (.int .i64 (k + i)), .v (.int .i64 i)]) ∧ h = [.lst 1 ((marksString k i ++ bs.drop i).map strC)]) (And.intro ?_ ?_)))
    · refine Exists.intro bs.length ?_
      exact ⟨0, by omega, rfl, ⟨z0, by simp⟩, rfl⟩
    · intro m vs h hI
      obtain ⟨i, hi, rfl, ⟨z, rfl⟩, rfl⟩ := hI
      refine And.intro (fun h1 => ?_) (fun h1 => ?_)
      · simp only [decide_eq_true_eq] at h1
        have hlt : i < bs.length := by omega
        have hst := mark_stepString bs k i hlt
        have hg : ((marksString k i ++ bs.drop i).map strC)[0 + i]? = some (strC bs[i]) := by
          rw [Nat.zero_add, List.getElem?_map, List.getElem?_append_right (by simp [marksString]), show i - (marksString k i).length = 0 by simp [marksString], List.getElem?_drop, Nat.add_zero, List.getElem?_eq_getElem hlt]
          rfl
        generalize (marksString k i ++ bs.drop i).map strC = L at *
        generalize bs[i] = b0 at hg
        refine And.intro (by omega) (And.intro (by omega) ?_)
        refine Exists.intro i (And.intro rfl (And.intro hlt ?_))
        refine Exists.intro _ (And.intro hg (And.intro (by decide) ?_))
        refine Exists.intro (bs.length - (i + 1)) (And.intro (by omega) ⟨i + 1, by omega, rfl, ⟨z, ?_⟩, ?_⟩)
        · rw [wrap_succ hlt (by omega), wrap64 (x := k + i + 1) (by omega), show k + (i : Int) + 1 = k + ((i + 1 : Nat) : Int) by omega]
        · rw [← hst, Nat.zero_add]
          rfl
      · simp only [decide_eq_false_iff_not] at h1
        have hil : i = bs.length := by omega
        subst hil
        rw [List.drop_length, List.append_nil]
        refine And.intro (closed_String _) ?_
        exact hp
  · exact hp.elim

/-! ### Export: marked and found again -/

def mkExport (k : Int) : Ex := ⟨mkText k, k + 1, k + 1 + 1⟩
def marksExport (k : Int) (n : Nat) : List Ex := (List.range n).map fun i : Nat => mkExport (k + 3 * (i : Int))
def hMarkExport : CH := fun args hl K => match args, hl with
  | [.slc 0 0 n _, .v (.int .i64 k)], [.lst 3 L] => ∃ bs : List Ex, L = bs.map exC ∧ n = bs.length ∧ bs.length ≤ 1048576 ∧ 0 ≤ k ∧ k ≤ 1099511627776 ∧ K (.v (.int .i64 (k + 3 * n))) [.lst 3 ((marksExport k n).map exC)]
  | _, _ => False
theorem mark_stepExport (bs : List Ex) (k : Int) (i : Nat) (h : i < bs.length) : ((marksExport k i ++ bs.drop i).map exC).set i (exC (mkExport (k + 3 * i))) = (marksExport k (i + 1) ++ bs.drop (i + 1)).map exC := by
  have hl : ((marksExport k i).map exC).length = i := by simp [marksExport]
  rw [List.map_append, List.set_append_right _ _ (by omega), hl, Nat.sub_self, List.drop_eq_getElem_cons h, List.map_cons, List.set_cons_zero]
  simp [marksExport, List.range_succ]
def cx_s_markExportS : Ctx := mkC [(55, callM [] false hMkText)]
theorem cx_s_markExportS_ok : CtxOk Tryz.prog cx_s_markExportS := mkC_ok (mem1 ⟨s_markText, fnOk Tryz.func55 rfl rfl⟩ mem0)
set_option maxRecDepth 100000 in
set_option pp.maxSteps 1500 in
set_option maxHeartbeats 4000000 in
theorem s_markExportS : HSound Tryz.prog 60 (callM [.rw] false hMarkExport) := by
  refine callM_sound cx_s_markExportS_ok mixed Tryz.func60 rfl fun args hl K hp => ?_
  unfold hMarkExport at hp
  split at hp
  · rename_i n z0 k _
    obtain ⟨bs, rfl, rfl, hb, hk0, hk1, hp⟩ := hp
    refine Exists.intro false (Exists.intro [0, 1, 5] (Exists.intro (fun m vs h => ∃ i : Nat, i ≤ bs.length ∧ m = bs.length - i ∧ (∃ z, vs = [.slc 0 0 bs.length z, .v (.int .i64 (k + 3 * i)), .v (.int .i64 i)]) ∧ h = [.lst 3 ((marksExport k i ++ bs.drop i).map exC)]) (And.intro ?_ ?_)))
    · refine Exists.intro bs.length ?_
      exact ⟨0, by omega, rfl, ⟨z0, by simp⟩, rfl⟩
    · intro m vs h hI
      obtain ⟨i, hi, rfl, ⟨z, rfl⟩, rfl⟩ := hI
      refine And.intro (fun h1 => ?_) (fun h1 => ?_)
      · simp only [decide_eq_true_eq] at h1
        have hlt : i < bs.length := by omega
        have hst := mark_stepExport bs k i hlt
        have hL : ((marksExport k i ++ bs.drop i).map exC).length = bs.length := by simp [marksExport]; omega
        have hg : ((marksExport k i ++ bs.drop i).map exC)[0 + i]? = some (exC bs[i]) := by
          rw [Nat.zero_add, List.getElem?_map, List.getElem?_append_right (by simp [marksExport]), show i - (marksExport k i).length = 0 by simp [marksExport], List.getElem?_drop, Nat.add_zero, List.getElem?_eq_getElem hlt]
          rfl
        generalize (marksExport k i ++ bs.drop i).map exC = L at *
        generalize bs[i] = b0 at hg
        have hLi : 0 + i < L.length := by omega
        generalize hκ : k + 3 * (i : Int) = κ at *
        have hκ0 : 0 ≤ κ ∧ κ ≤ 1199511627776 := by omega
        have hw : ∀ x : Int, 0 ≤ x → x ≤ 1200000000000 → IntKind.i64.wrap (x + 1) = x + 1 := fun x _ _ => wrap64 (by omega)
        repeat' (first
          | refine Exists.intro i (And.intro rfl (And.intro hlt ?_))
          | refine Exists.intro _ (And.intro hg (And.intro (by decide) ?_))
          | refine Exists.intro _ (And.intro (get_set (by first | exact hLi | (simp only [List.length_set]; exact hLi))) (And.intro (by decide) ?_))
          | refine And.intro (by omega) (And.intro (by omega) ?_)
          | refine And.intro (by decide) ?_)
        refine Exists.intro (bs.length - (i + 1)) (And.intro (by omega) ⟨i + 1, by omega, rfl, ⟨z, ?_⟩, ?_⟩)
        · rw [wrap_succ hlt (by omega), show k + 3 * ((i + 1 : Nat) : Int) = κ + 3 by omega]
          have hw0 := hw (κ) (by omega) (by omega)
          have hw1 := hw (κ + 1) (by omega) (by omega)
          have hw2 := hw (κ + 1 + 1) (by omega) (by omega)
          try simp only [hw0, hw1, hw2]
          simp [Int.add_assoc]
        · rw [← hst]
          simp only [List.set_set, Nat.zero_add]
          have hw0 := hw (κ) (by omega) (by omega)
          have hw1 := hw (κ + 1) (by omega) (by omega)
          have hw2 := hw (κ + 1 + 1) (by omega) (by omega)
          try simp only [hw0, hw1, hw2]
          rfl
      · simp only [decide_eq_false_iff_not] at h1
        have hil : i = bs.length := by omega
        subst hil
        rw [List.drop_length, List.append_nil]
        refine And.intro (closed_Export _) ?_
        exact hp
  · exact hp.elim

/-! ### Banks -/

def lensB (bs : List (List Int)) : Nat := (bs.map List.length).sum
def markBk (k : Int) : List (List Int) → List (List Int)
  | [] => []
  | b :: bs => marksInt k b.length :: markBk (k + b.length) bs
theorem markBk_app (k : Int) : ∀ (l r : List (List Int)), markBk k (l ++ r) = markBk k l ++ markBk (k + lensB l) r
  | [], r => by simp [markBk, lensB]
  | b :: l, r => by
    simp only [List.cons_append, markBk]
    rw [markBk_app]
    simp only [List.cons.injEq, true_and, lensB, List.map_cons, List.sum_cons]
    rw [show k + (b.length : Int) + ((List.map List.length l).sum : Nat) = k + ((b.length + (List.map List.length l).sum : Nat) : Int) by omega]
theorem markBk_len (k : Int) : ∀ l, (markBk k l).length = l.length
  | [] => rfl
  | b :: l => by simp [markBk, markBk_len (k + b.length) l]
def hMarkIntSS : CH := fun args hl K => match args, hl with
  | [.slc 0 0 n _, .v (.int .i64 k)], [.lst 1 L] => ∃ bs : List (List Int), L = bs.map bankC ∧ n = bs.length ∧ bs.length ≤ 1048576 ∧ lensB bs ≤ 1048576 ∧ 0 ≤ k ∧ k ≤ 1073741824 ∧ K (.v (.int .i64 (k + lensB bs))) [.lst 1 ((markBk k bs).map bankC)]
  | _, _ => False
theorem bk_step {bs : List (List Int)} {k : Int} {i : Nat} {b : List Int} (h : bs[i]? = some b) : ((markBk k (bs.take i) ++ bs.drop i).map bankC).set i (bankC (marksInt (k + lensB (bs.take i)) b.length)) = (markBk k (bs.take (i + 1)) ++ bs.drop (i + 1)).map bankC := by
  obtain ⟨hi, hb⟩ := List.getElem?_eq_some_iff.1 h
  have hl : ((markBk k (bs.take i)).map bankC).length = i := by rw [List.length_map, markBk_len, List.length_take]; omega
  rw [List.map_append, List.set_append_right _ _ (by omega), hl, Nat.sub_self, List.drop_eq_getElem_cons hi, List.map_cons, List.set_cons_zero]
  rw [List.take_add_one, h]
  simp only [Option.toList]
  rw [markBk_app]
  simp [markBk]
def cx_s_markIntSS : Ctx := mkC [(56, callM [.rw] false hMarkInt)]
theorem cx_s_markIntSS_ok : CtxOk Tryz.prog cx_s_markIntSS := mkC_ok (mem1 ⟨s_markIntS, fnOk Tryz.func56 rfl rfl⟩ mem0)
set_option maxRecDepth 100000 in
set_option pp.maxSteps 1500 in
set_option maxHeartbeats 4000000 in
theorem s_markIntSS : HSound Tryz.prog 57 (callM [.rw] false hMarkIntSS) := by
  refine callM_sound cx_s_markIntSS_ok mixed Tryz.func57 rfl fun args hl K hp => ?_
  unfold hMarkIntSS at hp
  split at hp
  · rename_i n z0 k _
    obtain ⟨bs, rfl, rfl, hb, hw, hk0, hk1, hp⟩ := hp
    refine Exists.intro true (Exists.intro [0, 1, 5] (Exists.intro (fun m vs h => ∃ i : Nat, i ≤ bs.length ∧ m = bs.length - i ∧ vs = [.slc 0 0 bs.length false, .v (.int .i64 (k + lensB (bs.take i))), .v (.int .i64 i)] ∧ h = [.lst 1 ((markBk k (bs.take i) ++ bs.drop i).map bankC)]) (And.intro ?_ ?_)))
    · refine Exists.intro [] ?_
      refine And.intro (closed_IntS _) ?_
      refine Exists.intro bs.length ?_
      exact ⟨0, by omega, rfl, by simp [lensB], rfl⟩
    · intro m vs h hI
      obtain ⟨i, hi, rfl, rfl, rfl⟩ := hI
      refine And.intro (fun h1 => ?_) (fun h1 => ?_)
      · simp only [decide_eq_true_eq] at h1
        have hlt : i < bs.length := by omega
        obtain ⟨b, hbi⟩ : ∃ b, bs[i]? = some b := ⟨_, List.getElem?_eq_getElem hlt⟩
        have hst := bk_step (k := k) hbi
        have hcl := closed_IntS (markBk k (bs.take (i + 1)) ++ bs.drop (i + 1))
        have hle : lensB (bs.take i) ≤ 1048576 := by have := sum_take_le List.length bs i; simp only [lensB] at *; omega
        have hsum : lensB (bs.take (i + 1)) = lensB (bs.take i) + b.length := sum_take (f := List.length) hbi
        have hbl : b.length ≤ 1048576 := by have := le_sum (f := List.length) (List.mem_of_getElem? hbi); simp only [lensB] at hw; omega
        have hml := marksInt_len (k + lensB (bs.take i)) b.length
        have hg : ((markBk k (bs.take i) ++ bs.drop i).map bankC)[0 + i]? = some (bankC b) := by
          have e : (markBk k (bs.take i)).length = i := by rw [markBk_len, List.length_take]; omega
          rw [Nat.zero_add, List.getElem?_map, List.getElem?_append_right (by omega), e, Nat.sub_self, List.getElem?_drop, Nat.add_zero, hbi]
          rfl
        rw [← hst] at hcl
        have hlen : ((markBk k (bs.take i) ++ bs.drop i).map bankC).length = bs.length := by rw [List.length_map, List.length_append, markBk_len, List.length_take, List.length_drop]; omega
        generalize (markBk k (bs.take i) ++ bs.drop i).map bankC = L at *
        generalize hS : lensB (bs.take i) = S at *
        refine Exists.intro i (And.intro rfl (And.intro hlt ?_))
        refine Exists.intro _ (And.intro hg (And.intro (by decide) ?_))
        refine And.intro (closed_Int _) ?_
        refine Exists.intro b (And.intro rfl (And.intro (List.length_map _) (And.intro hbl (And.intro (by omega) (And.intro (by omega) ?_)))))
        refine Exists.intro [(0, 0 + i, 0)] ?_
        refine Exists.intro _ (And.intro (get_set (by omega)) ?_)
        refine Exists.intro _ (And.intro (List.take_of_length_le (by simp only [List.length_map, marksInt_len]; exact Nat.le_refl _)) (And.intro (by simp only [List.length_map, marksInt_len]) (And.intro (closed_Int _) ?_)))
        have e9 : (L.set (0 + i) [.slc 1 0 (List.map intC b).length false]).set (0 + i) [.sl 1 ((marksInt (k + S) (List.map intC b).length).map intC)] = L.set i (bankC (marksInt (k + S) b.length)) := by
          rw [List.set_set, Nat.zero_add, List.length_map]
          rfl
        refine And.intro (show ClosedL ((L.set (0 + i) _).set (0 + i) _) from e9 ▸ hcl) ?_
        refine Exists.intro (bs.length - (i + 1)) (And.intro (by omega) ⟨i + 1, by omega, rfl, ?_, ?_⟩)
        · rw [wrap_succ hlt (by omega), hsum, List.length_map, show k + (S : Int) + (b.length : Int) = k + ((S + b.length : Nat) : Int) by omega]
        · rw [← hst, ← e9]
      · simp only [decide_eq_false_iff_not] at h1
        have hil : i = bs.length := by omega
        subst hil
        rw [List.drop_length, List.append_nil, List.take_length]
        refine And.intro (closed_IntS _) ?_
        exact hp
  · exact hp.elim
end Go.Proofs.YtbfjkjdbdejnmaaGreat.Ab

/- Modules: a whole one, marked. No condition. -/
namespace Go.Proofs.YtbfjkjdbdejnmaaGreat.Ab
set_option linter.unusedVariables false
set_option linter.unusedSimpArgs false

def markMo (k : Int) (m : Mo) : Mo :=
  let k2 := k + m.text.length
  let k3 := k2 + lensB m.banks
  let k4 := k3 + m.data.length
  let k5 := k4 + m.rels.length
  let k6 := k5 + m.imps.length
  { m with text := marksInt k m.text.length, banks := markBk k2 m.banks, data := marksByte k3 m.data.length, rels := marksInt k4 m.rels.length, imps := marksString k5 m.imps.length, exps := marksExport k6 m.exps.length }
def markW (m : Mo) : Int := m.text.length + lensB m.banks + m.data.length + m.rels.length + m.imps.length + 3 * m.exps.length
def hMarkMo : CH := fun args hl K => match args, hl with
  | [.agg [.v _, .slc 0 0 a _, .slc 1 0 b _, .slc 2 0 c _, .v _, .slc 3 0 d _, .slc 4 0 e _, .slc 5 0 f _], .v (.int .i64 k)], [.lst 1 A, .lst 1 B, .lst 1 C, .lst 1 D, .lst 1 E, .lst 3 F] => ∃ m : Mo, A = m.text.map intC ∧ B = m.banks.map bankC ∧ C = m.data.map byteC ∧ D = m.rels.map intC ∧ E = m.imps.map strC ∧ F = m.exps.map exC ∧
      a = m.text.length ∧ b = m.banks.length ∧ c = m.data.length ∧ d = m.rels.length ∧ e = m.imps.length ∧ f = m.exps.length ∧ wtMo m ≤ 1048576 ∧ 0 ≤ k ∧ k ≤ 536870912 ∧ K (.v (.int .i64 (k + markW m))) (moH (markMo k m))
  | _, _ => False
end Go.Proofs.YtbfjkjdbdejnmaaGreat.Ab

/- Modules of a list: marked. No condition. -/
namespace Go.Proofs.YtbfjkjdbdejnmaaGreat.Ab
set_option linter.unusedVariables false
set_option linter.unusedSimpArgs false

def hMarkMoS : CH := fun args hl K => match args, hl with
  | [.slc 0 0 n _, .v (.int .i64 k)], [.lst 8 L] => ∃ bs : List Mo, L = bs.map moC ∧ n = bs.length ∧ wtModule bs ≤ 1048576 ∧ k = 1 ∧ ∀ (q : Int) (cs : List Mo), 0 ≤ q → cs.length = bs.length → K (.v (.int .i64 q)) [.lst 8 (cs.map moC)]
  | _, _ => False
theorem clo_set {L : List (List AV)} {cs : List Mo} {i : Nat} (hcs : ∀ m' : Mo, ((cs.set i m').map moC) = L.set (0 + i) (moC m')) (m' : Mo) : ClosedL (L.set (0 + i) (moC m')) := by
  rw [← hcs]
  exact closed_Module _
def cx_s_markModuleS : Ctx := mkC [(55, callM [] false hMkText), (56, callM [.rw] false hMarkInt), (57, callM [.rw] false hMarkIntSS), (58, callM [.rw] false hMarkByte), (59, callM [.rw] false hMarkString), (60, callM [.rw] false hMarkExport)]
theorem cx_s_markModuleS_ok : CtxOk Tryz.prog cx_s_markModuleS := mkC_ok (mem1 ⟨s_markText, fnOk Tryz.func55 rfl rfl⟩ (mem1 ⟨s_markIntS, fnOk Tryz.func56 rfl rfl⟩ (mem1 ⟨s_markIntSS, fnOk Tryz.func57 rfl rfl⟩ (mem1 ⟨s_markByteS, fnOk Tryz.func58 rfl rfl⟩ (mem1 ⟨s_markStringS, fnOk Tryz.func59 rfl rfl⟩ (mem1 ⟨s_markExportS, fnOk Tryz.func60 rfl rfl⟩ mem0))))))
set_option maxRecDepth 100000 in
set_option pp.maxSteps 1500 in
set_option maxHeartbeats 8000000 in
theorem s_markModuleS : HSound Tryz.prog 18 (callM [.rw] false hMarkMoS) := by
  refine callM_sound cx_s_markModuleS_ok mixed Tryz.func18 rfl fun args hl K hp => ?_
  unfold hMarkMoS at hp
  split at hp
  · rename_i n z0 k _
    obtain ⟨bs, rfl, rfl, hw, rfl, hp⟩ := hp
    simp only [wtModule] at hw
    refine Exists.intro true (Exists.intro [0, 1, 5] (Exists.intro (fun m vs h => ∃ (i : Nat) (q : Int) (cs : List Mo), i ≤ bs.length ∧ m = bs.length - i ∧ 0 ≤ q ∧ q ≤ 1 + 3 * (((bs.take i).map wtMo).sum : Nat) + 2 * (i : Int) ∧ cs.length = bs.length ∧ (∀ k, i ≤ k → cs[k]? = bs[k]?) ∧ vs = [.slc 0 0 bs.length false, .v (.int .i64 q), .v (.int .i64 i)] ∧ h = [.lst 8 (cs.map moC)]) (And.intro ?_ ?_)))
    · refine Exists.intro [] ?_
      refine And.intro (closed_Module _) ?_
      exact Exists.intro bs.length ⟨0, 1, bs, by omega, rfl, by omega, by simp, rfl, fun _ _ => rfl, rfl, rfl⟩
    intro m vs h hI
    obtain ⟨i, q, cs, hi, rfl, hq0, hq1, hcl, hck, rfl, rfl⟩ := hI
    refine And.intro (fun h1 => ?_) (fun h1 => ?_)
    · have h1 := of_decide_eq_true h1
      have hlt : i < bs.length := by omega
      obtain ⟨b, hb⟩ : ∃ b, bs[i]? = some b := ⟨_, List.getElem?_eq_getElem hlt⟩
      have hcb : cs[i]? = some b := by rw [hck i (Nat.le_refl i), hb]
      have hst := sum_take (f := wtMo) hb
      have hle := sum_take_le wtMo bs (i + 1)
      have hwb : wtMo b ≤ 1048576 := by omega
      have hsm := sm_of_wt hwb
      have hbk : lensB b.banks ≤ 1048576 := by simp only [wtMo, wtIntS] at hwb; simp only [lensB]; omega
      have hW : (b.text.length + lensB b.banks + b.data.length + b.rels.length + b.imps.length + 3 * b.exps.length : Int) ≤ 3 * (wtMo b : Nat) := by
        simp only [wtMo, wtIntS, wtString, wtExport, lensB]
        omega
      generalize ((bs.take i).map wtMo).sum = S0 at *
      generalize hS1 : ((bs.take (i + 1)).map wtMo).sum = S1 at *
      have hg : (cs.map moC)[0 + i]? = some (moC b) := by rw [Nat.zero_add]; exact get_map hcb
      have hLl : (cs.map moC).length = bs.length := by rw [List.length_map, hcl]
      have hiL : 0 + i < (cs.map moC).length := by omega
      have hcs : ∀ m' : Mo, ((cs.set i m').map moC) = (cs.map moC).set (0 + i) (moC m') := fun m' => by rw [Nat.zero_add, List.map_set]
      generalize cs.map moC = L at *
      obtain ⟨g0, g1, g2, g3, g4, g5, g6, g7, g8, g9⟩ := hsm
      have hgs : ∀ (M : List (List AV)) (e : List AV), M.length = L.length → (M.set (0 + i) e)[0 + i]? = some e := fun M e hM => get_set (by omega)
      have j1 : (b.text.map intC).length = b.text.length := List.length_map _
      have j2 : (b.banks.map bankC).length = b.banks.length := List.length_map _
      have j3 : (b.data.map byteC).length = b.data.length := List.length_map _
      have j4 : (b.rels.map intC).length = b.rels.length := List.length_map _
      have j5 : (b.imps.map strC).length = b.imps.length := List.length_map _
      have j6 : (b.exps.map exC).length = b.exps.length := List.length_map _
      have hw1 : IntKind.i64.wrap (q + 1) = q + 1 := wrap64 (by omega)
      have hw2 : IntKind.i64.wrap (IntKind.i64.wrap (q + 1) + ((b.text.map intC).length : Int) + (lensB b.banks : Int) + ((b.data.map byteC).length : Int) + 1) = q + 1 + b.text.length + lensB b.banks + b.data.length + 1 := by rw [hw1, j1, j3]; exact wrap64 (by omega)
      repeat' (first
        | refine And.intro (by omega) (And.intro (by omega) ?_)
        | refine Exists.intro i (And.intro rfl (And.intro hlt ?_))
        | refine Exists.intro _ (And.intro hg (And.intro (by decide) ?_))
        | refine Exists.intro _ (And.intro (hgs _ _ (by simp only [List.length_set])) (And.intro (by decide) ?_))
        | refine And.intro (closed_Int _) ?_
        | refine And.intro (closed_bytes _) ?_
        | refine And.intro (closed_IntS _) ?_
        | refine And.intro (closed_String _) ?_
        | refine And.intro (closed_Export _) ?_
        | refine Exists.intro b.text (And.intro rfl (And.intro (List.length_map _) (And.intro g1 (And.intro (by omega) (And.intro (by omega) ?_)))))
        | refine Exists.intro b.banks (And.intro rfl (And.intro (List.length_map _) (And.intro g2 (And.intro hbk (And.intro (by omega) (And.intro (by omega) ?_))))))
        | refine Exists.intro b.data (And.intro rfl (And.intro (List.length_map _) (And.intro g4 (And.intro (by omega) (And.intro (by omega) ?_)))))
        | refine Exists.intro b.rels (And.intro rfl (And.intro (List.length_map _) (And.intro g5 (And.intro (by omega) (And.intro (by omega) ?_)))))
        | refine Exists.intro b.imps (And.intro rfl (And.intro (List.length_map _) (And.intro g6 (And.intro (by omega) (And.intro (by omega) ?_)))))
        | refine Exists.intro b.exps (And.intro rfl (And.intro (List.length_map _) (And.intro g8 (And.intro (by omega) (And.intro (by omega) ?_)))))
        | fail)
      have hkS : ∀ (k : Int) (n : Nat), ((marksString k n).map strC).length = n := fun k n => by simp [marksString]
      have hkE : ∀ (k : Int) (n : Nat), ((marksExport k n).map exC).length = n := fun k n => by simp [marksExport]
      have hkI : ∀ (k : Int) (n : Nat), ((marksInt k n).map intC).length = n := fun k n => by simp [marksInt]
      have hkB : ∀ (k : Int) (n : Nat), ((marksByte k n).map byteC).length = n := fun k n => by simp [marksByte]
      have hkK : ∀ (k : Int), ((markBk k b.banks).map bankC).length = (b.banks.map bankC).length := fun k => by rw [List.length_map, List.length_map, markBk_len]
      refine Exists.intro [(0, 0 + i, 1), (0, 0 + i, 2), (0, 0 + i, 3), (0, 0 + i, 5), (0, 0 + i, 6), (0, 0 + i, 7)] ?_
      repeat' (first
        | refine Exists.intro _ (And.intro (hgs _ _ (by simp only [List.length_set])) ?_)
        | refine Exists.intro _ (And.intro (List.take_of_length_le (Nat.le_of_eq (hkI _ _))) (And.intro (hkI _ _) (And.intro (closed_Int _) ?_)))
        | refine Exists.intro _ (And.intro (List.take_of_length_le (Nat.le_of_eq (hkK _))) (And.intro (hkK _) (And.intro (closed_IntS _) ?_)))
        | refine Exists.intro _ (And.intro (List.take_of_length_le (Nat.le_of_eq (hkB _ _))) (And.intro (hkB _ _) (And.intro (closed_bytes _) ?_)))
        | refine Exists.intro _ (And.intro (List.take_of_length_le (Nat.le_of_eq (hkS _ _))) (And.intro (hkS _ _) (And.intro (closed_String _) ?_)))
        | refine Exists.intro _ (And.intro (List.take_of_length_le (Nat.le_of_eq (hkE _ _))) (And.intro (hkE _ _) (And.intro (closed_Export _) ?_)))
        | fail)
      simp only [List.set_set]
      refine And.intro (clo_set hcs ⟨_, _, _, _, _, _, _, _⟩) ?_
      refine Exists.intro (bs.length - (i + 1)) (And.intro (by omega) ⟨i + 1, IntKind.i64.wrap (IntKind.i64.wrap (q + 1) + ((b.text.map intC).length : Int) + (lensB b.banks : Int) + ((b.data.map byteC).length : Int) + 1) + ((b.rels.map intC).length : Int) + ((b.imps.map strC).length : Int) + 3 * ((b.exps.map exC).length : Int), cs.set i ⟨_, _, _, _, _, _, _, _⟩, by omega, rfl, ?_, ?_, by rw [List.length_set, hcl], fun k hk => ?_, ?_, congrArg (fun l => [Root.lst 8 l]) (hcs ⟨_, _, _, _, _, _, _, _⟩).symm⟩)
      · rw [hw2]
        omega
      · rw [hw2, hS1]
        omega
      · rw [List.getElem?_set_ne (by omega)]
        exact hck k (by omega)
      · rw [wrap_succ hlt (by omega)]
    · have h1 := of_decide_eq_false h1
      refine And.intro (closed_Module _) ?_
      exact hp q cs hq0 hcl
  · exact hp.elim
end Go.Proofs.YtbfjkjdbdejnmaaGreat.Ab

/- Layouts: compared, marked, found again. No condition. -/
namespace Go.Proofs.YtbfjkjdbdejnmaaGreat.Ab
set_option linter.unusedVariables false
set_option linter.unusedSimpArgs false

def mkG {α : Type} (w : α → Nat) (g : Int → α → α) (k : Int) : List α → List α
  | [] => []
  | a :: l => g k a :: mkG w g (k + w a) l
section
variable {α : Type} {w : α → Nat} {g : Int → α → α}
theorem mkG_app (k : Int) : ∀ (l r : List α), mkG w g k (l ++ r) = mkG w g k l ++ mkG w g (k + ((l.map w).sum : Nat)) r
  | [], r => by simp [mkG]
  | a :: l, r => by
    simp only [List.cons_append, mkG, List.map_cons, List.sum_cons]
    rw [mkG_app, show k + (w a : Int) + ((List.map w l).sum : Nat) = k + ((w a + (List.map w l).sum : Nat) : Int) by omega]
theorem mkG_len (k : Int) : ∀ l : List α, (mkG w g k l).length = l.length
  | [] => rfl
  | a :: l => by simp [mkG, mkG_len (k + w a) l]
theorem mkG_step {l : List α} {k : Int} {i : Nat} {a : α} (h : l[i]? = some a) : (mkG w g k (l.take i) ++ l.drop i).set i (g (k + (((l.take i).map w).sum : Nat)) a) = mkG w g k (l.take (i + 1)) ++ l.drop (i + 1) := by
  obtain ⟨hi, hb⟩ := List.getElem?_eq_some_iff.1 h
  have hl : (mkG w g k (l.take i)).length = i := by rw [mkG_len, List.length_take]; omega
  rw [List.set_append_right _ _ (by omega), hl, Nat.sub_self, List.drop_eq_getElem_cons hi, List.set_cons_zero, List.take_add_one, h]
  simp only [Option.toList]
  rw [mkG_app]
  simp [mkG]
theorem mkG_at {l : List α} {k : Int} {i : Nat} {a : α} (h : l[i]? = some a) : (mkG w g k (l.take i) ++ l.drop i)[i]? = some a := by
  have e : (mkG w g k (l.take i)).length = i := by
    obtain ⟨hi, hb⟩ := List.getElem?_eq_some_iff.1 h
    rw [mkG_len, List.length_take]; omega
  rw [List.getElem?_append_right (by omega), e, Nat.sub_self, List.getElem?_drop, Nat.add_zero, h]
theorem mkG_get {l : List α} {k : Int} {i : Nat} {a : α} (h : l[i]? = some a) : (mkG w g k l)[i]? = some (g (k + (((l.take i).map w).sum : Nat)) a) := by
  obtain ⟨hi, hb⟩ := List.getElem?_eq_some_iff.1 h
  have e : l = l.take i ++ a :: l.drop (i + 1) := by
    conv => lhs; rw [← List.take_append_drop i l, List.drop_eq_getElem_cons hi, hb]
  have el : (mkG w g k (l.take i)).length = i := by rw [mkG_len, List.length_take]; omega
  conv => lhs; rw [e]
  rw [mkG_app, List.getElem?_append_right (by omega), el, Nat.sub_self]
  simp [mkG]
end
def wP (p : Pl) : Nat := p.banks.length + 3
def gP (k : Int) (p : Pl) : Pl := ⟨k, marksInt (k + 1) p.banks.length, k + 1 + p.banks.length, k + 1 + p.banks.length + 1⟩
def wT (t : List Tg) : Nat := 3 * t.length
def gT (k : Int) (t : List Tg) : List Tg := marksTarget k t.length
abbrev sumW {α : Type} (w : α → Nat) (l : List α) : Nat := (l.map w).sum

/-! ### Lists of targets -/

def hMarkTgS : CH := fun args hl K => match args, hl with
  | [.slc 0 0 n _, .v (.int .i64 k)], [.lst 1 L] => ∃ bs : List (List Tg), L = bs.map tgsC ∧ n = bs.length ∧ bs.length ≤ 1048576 ∧ sumW wT bs ≤ 3145728 ∧ 0 ≤ k ∧ k ≤ 1073741824 ∧ K (.v (.int .i64 (k + sumW wT bs))) [.lst 1 ((mkG wT gT k bs).map tgsC)]
  | _, _ => False
def cx_s_markTargetSS : Ctx := mkC [(113, callM [.rw] false hMarkTarget)]
theorem cx_s_markTargetSS_ok : CtxOk Tryz.prog cx_s_markTargetSS := mkC_ok (mem1 ⟨s_markTargetS, fnOk Tryz.func113 rfl rfl⟩ mem0)
set_option maxRecDepth 100000 in
set_option pp.maxSteps 1500 in
set_option maxHeartbeats 4000000 in
theorem s_markTargetSS : HSound Tryz.prog 62 (callM [.rw] false hMarkTgS) := by
  refine callM_sound cx_s_markTargetSS_ok mixed Tryz.func62 rfl fun args hl K hp => ?_
  unfold hMarkTgS at hp
  split at hp
  · rename_i n z0 k _
    obtain ⟨bs, rfl, rfl, hb, hw, hk0, hk1, hp⟩ := hp
    refine Exists.intro true (Exists.intro [0, 1, 5] (Exists.intro (fun m vs h => ∃ i : Nat, i ≤ bs.length ∧ m = bs.length - i ∧ vs = [.slc 0 0 bs.length false, .v (.int .i64 (k + sumW wT (bs.take i))), .v (.int .i64 i)] ∧ h = [.lst 1 ((mkG wT gT k (bs.take i) ++ bs.drop i).map tgsC)]) (And.intro ?_ ?_)))
    · refine Exists.intro [] ?_
      refine And.intro (closed_TargetS _) ?_
      refine Exists.intro bs.length ?_
      exact ⟨0, by omega, rfl, by simp [sumW], rfl⟩
    · intro m vs h hI
      obtain ⟨i, hi, rfl, rfl, rfl⟩ := hI
      refine And.intro (fun h1 => ?_) (fun h1 => ?_)
      · simp only [decide_eq_true_eq] at h1
        have hlt : i < bs.length := by omega
        obtain ⟨b, hbi⟩ : ∃ b, bs[i]? = some b := ⟨_, List.getElem?_eq_getElem hlt⟩
        have hst := mkG_step (w := wT) (g := gT) (k := k) hbi
        have hcl := closed_TargetS (mkG wT gT k (bs.take (i + 1)) ++ bs.drop (i + 1))
        have hle := sum_take_le wT bs i
        have hsum := sum_take (f := wT) hbi
        have hbl : wT b ≤ 3145728 := by have := le_sum (f := wT) (List.mem_of_getElem? hbi); simp only [sumW] at hw; omega
        have hg : ((mkG wT gT k (bs.take i) ++ bs.drop i).map tgsC)[0 + i]? = some (tgsC b) := by rw [Nat.zero_add]; exact get_map (mkG_at hbi)
        have hlen : ((mkG wT gT k (bs.take i) ++ bs.drop i).map tgsC).length = bs.length := by rw [List.length_map, List.length_append, mkG_len, List.length_take, List.length_drop]; omega
        rw [← hst, List.map_set] at hcl
        have hst2 : (mkG wT gT k (bs.take (i + 1)) ++ bs.drop (i + 1)).map tgsC = ((mkG wT gT k (bs.take i) ++ bs.drop i).map tgsC).set i (tgsC (gT (k + (((bs.take i).map wT).sum : Nat)) b)) := by rw [← hst, List.map_set]
        generalize (mkG wT gT k (bs.take i) ++ bs.drop i).map tgsC = L at *
        simp only [sumW] at *
        generalize hS : ((bs.take i).map wT).sum = S at *
        simp only [wT] at hbl hsum
        refine Exists.intro i (And.intro rfl (And.intro hlt ?_))
        refine Exists.intro _ (And.intro hg (And.intro (by decide) ?_))
        refine And.intro (closed_Target _) ?_
        refine Exists.intro b (And.intro rfl (And.intro (List.length_map _) (And.intro (by omega) (And.intro (by omega) (And.intro (by omega) ?_)))))
        refine Exists.intro [(0, 0 + i, 0)] ?_
        refine Exists.intro _ (And.intro (get_set (by omega)) ?_)
        refine Exists.intro _ (And.intro (List.take_of_length_le (by simp only [List.length_map, marksTarget, List.length_range]; exact Nat.le_refl _)) (And.intro (by simp only [List.length_map, marksTarget, List.length_range]) (And.intro (closed_Target _) ?_)))
        have e9 : (L.set (0 + i) [.slc 1 0 (List.map tgC b).length false]).set (0 + i) [.sl 3 ((marksTarget (k + S) (List.map tgC b).length).map tgC)] = L.set i (tgsC (gT (k + S) b)) := by
          rw [List.set_set, Nat.zero_add, List.length_map]
          rfl
        refine And.intro (show ClosedL ((L.set (0 + i) _).set (0 + i) _) from e9 ▸ hcl) ?_
        refine Exists.intro (bs.length - (i + 1)) (And.intro (by omega) ⟨i + 1, by omega, rfl, ?_, ?_⟩)
        · rw [wrap_succ hlt (by omega), hsum, List.length_map, show k + (S : Int) + 3 * (b.length : Int) = k + ((S + 3 * b.length : Nat) : Int) by omega]
        · rw [hst2, ← e9]
      · simp only [decide_eq_false_iff_not] at h1
        have hil : i = bs.length := by omega
        subst hil
        rw [List.drop_length, List.append_nil, List.take_length]
        refine And.intro (closed_TargetS _) ?_
        exact hp
  · exact hp.elim
def hHeldTgS : CH := fun args hl K => match args, hl with
  | [.imm _ _ 1 L, .v (.int .i64 k)], [] => ∃ bs : List (List Tg), L = (mkG wT gT k bs).map tgsC ∧ bs.length ≤ 1048576 ∧ sumW wT bs ≤ 3145728 ∧ 0 ≤ k ∧ k ≤ 1073741824 ∧ K (.v (.int .i64 (k + sumW wT bs))) []
  | _, _ => False
end Go.Proofs.YtbfjkjdbdejnmaaGreat.Ab

/- Layouts: compared, marked, found again. No condition. -/
namespace Go.Proofs.YtbfjkjdbdejnmaaGreat.Ab
set_option linter.unusedVariables false
set_option linter.unusedSimpArgs false

theorem clo_setP {L : List (List AV)} {cs : List Pl} {i : Nat} (hcs : ∀ p : Pl, ((cs.set i p).map plC) = L.set (0 + i) (plC p)) (p : Pl) : ClosedL (L.set (0 + i) (plC p)) := by
  rw [← hcs]
  exact closed_Place _
def hMarkPl : CH := fun args hl K => match args, hl with
  | [.slc 0 0 n _, .v (.int .i64 k)], [.lst 4 L] => ∃ bs : List Pl, L = bs.map plC ∧ n = bs.length ∧ bs.length ≤ 1048576 ∧ (sumW wP bs ≤ 3145728 ∧ ∀ b ∈ bs, smPl b) ∧ 0 ≤ k ∧ k ≤ 1073741824 ∧ K (.v (.int .i64 (k + sumW wP bs))) [.lst 4 ((mkG wP gP k bs).map plC)]
  | _, _ => False
def cx_s_markPlaceS : Ctx := mkC [(56, callM [.rw] false hMarkInt)]
theorem cx_s_markPlaceS_ok : CtxOk Tryz.prog cx_s_markPlaceS := mkC_ok (mem1 ⟨s_markIntS, fnOk Tryz.func56 rfl rfl⟩ mem0)
set_option maxRecDepth 100000 in
set_option pp.maxSteps 1500 in
set_option maxHeartbeats 8000000 in
theorem s_markPlaceS : HSound Tryz.prog 61 (callM [.rw] false hMarkPl) := by
  refine callM_sound cx_s_markPlaceS_ok mixed Tryz.func61 rfl fun args hl K hp => ?_
  unfold hMarkPl at hp
  split at hp
  · rename_i n z0 k _
    obtain ⟨bs, rfl, rfl, hb, ⟨hw, hsp⟩, hk0, hk1, hp⟩ := hp
    refine Exists.intro true (Exists.intro [0, 1, 5] (Exists.intro (fun m vs h => ∃ i : Nat, i ≤ bs.length ∧ m = bs.length - i ∧ vs = [.slc 0 0 bs.length false, .v (.int .i64 (k + sumW wP (bs.take i))), .v (.int .i64 i)] ∧ h = [.lst 4 ((mkG wP gP k (bs.take i) ++ bs.drop i).map plC)]) (And.intro ?_ ?_)))
    · refine Exists.intro [] ?_
      refine And.intro (closed_Place _) ?_
      refine Exists.intro bs.length ?_
      exact ⟨0, by omega, rfl, by simp [sumW], rfl⟩
    · intro m vs h hI
      obtain ⟨i, hi, rfl, rfl, rfl⟩ := hI
      refine And.intro (fun h1 => ?_) (fun h1 => ?_)
      · simp only [decide_eq_true_eq] at h1
        have hlt : i < bs.length := by omega
        obtain ⟨b, hbi⟩ : ∃ b, bs[i]? = some b := ⟨_, List.getElem?_eq_getElem hlt⟩
        have hst := mkG_step (w := wP) (g := gP) (k := k) hbi
        have hle := sum_take_le wP bs i
        have hsum := sum_take (f := wP) hbi
        have hbs : b.banks.length ≤ 1048576 := hsp b (List.mem_of_getElem? hbi)
        have hbl : wP b ≤ 3145728 := by have := le_sum (f := wP) (List.mem_of_getElem? hbi); simp only [sumW] at hw; omega
        have hg : ((mkG wP gP k (bs.take i) ++ bs.drop i).map plC)[0 + i]? = some (plC b) := by rw [Nat.zero_add]; exact get_map (mkG_at hbi)
        have hlen : ((mkG wP gP k (bs.take i) ++ bs.drop i).map plC).length = bs.length := by rw [List.length_map, List.length_append, mkG_len, List.length_take, List.length_drop]; omega
        have hcs : ∀ p : Pl, (((mkG wP gP k (bs.take i) ++ bs.drop i).set i p).map plC) = ((mkG wP gP k (bs.take i) ++ bs.drop i).map plC).set (0 + i) (plC p) := fun p => by rw [Nat.zero_add, List.map_set]
        generalize mkG wP gP k (bs.take i) ++ bs.drop i = CS at *
        generalize CS.map plC = L at *
        simp only [sumW] at *
        generalize hS : ((bs.take i).map wP).sum = S at *
        simp only [wP] at hbl hsum
        generalize hκ : k + (S : Int) = κ at *
        have j1 : (b.banks.map intC).length = b.banks.length := List.length_map _
        have hw1 : IntKind.i64.wrap (κ + 1) = κ + 1 := wrap64 (by omega)
        have hw2 : IntKind.i64.wrap (IntKind.i64.wrap (κ + 1) + ((b.banks.map intC).length : Int) + 1) = κ + 1 + b.banks.length + 1 := by rw [hw1, j1]; exact wrap64 (by omega)
        have hw3 : IntKind.i64.wrap (IntKind.i64.wrap (IntKind.i64.wrap (κ + 1) + ((b.banks.map intC).length : Int) + 1) + 1) = κ + 1 + b.banks.length + 1 + 1 := by rw [hw2]; exact wrap64 (by omega)
        have hgs : ∀ (M : List (List AV)) (e : List AV), M.length = L.length → (M.set (0 + i) e)[0 + i]? = some e := fun M e hM => get_set (by omega)
        have hkI : ∀ (k : Int) (n : Nat), ((marksInt k n).map intC).length = n := fun k n => by simp [marksInt]
        repeat' (first
          | refine Exists.intro i (And.intro rfl (And.intro hlt ?_))
          | refine Exists.intro _ (And.intro hg (And.intro (by decide) ?_))
          | refine Exists.intro _ (And.intro (hgs _ _ (by simp only [List.length_set])) (And.intro (by decide) ?_))
          | refine And.intro (by decide) ?_
          | refine And.intro (closed_Int _) ?_
          | refine Exists.intro b.banks (And.intro rfl (And.intro (List.length_map _) (And.intro (by omega) (And.intro (by omega) (And.intro (by omega) ?_)))))
          | fail)
        refine Exists.intro [(0, 0 + i, 1)] ?_
        refine Exists.intro _ (And.intro (hgs _ _ (by simp only [List.length_set])) ?_)
        refine Exists.intro _ (And.intro (List.take_of_length_le (Nat.le_of_eq (hkI _ _))) (And.intro (hkI _ _) (And.intro (closed_Int _) ?_)))
        simp only [List.set_set]
        have e9 : gP κ b = ⟨κ, marksInt (κ + 1) b.banks.length, κ + 1 + b.banks.length, κ + 1 + b.banks.length + 1⟩ := rfl
        rw [hw2, hw1, j1]
        refine And.intro (clo_setP hcs ⟨_, _, _, _⟩) ?_
        refine Exists.intro (bs.length - (i + 1)) (And.intro (by omega) ⟨i + 1, by omega, rfl, ?_, ?_⟩)
        · rw [wrap_succ hlt (by omega), hsum, show IntKind.i64.wrap (κ + 1 + (b.banks.length : Int) + 1 + 1) = k + ((S + (b.banks.length + 3) : Nat) : Int) by rw [wrap64 (by omega)]; omega]
        · rw [← hst, e9]
          exact congrArg (fun l => [Root.lst 4 l]) (hcs ⟨_, _, _, _⟩).symm
      · simp only [decide_eq_false_iff_not] at h1
        have hil : i = bs.length := by omega
        subst hil
        rw [List.drop_length, List.append_nil, List.take_length]
        refine And.intro (closed_Place _) ?_
        exact hp
  · exact hp.elim
def hHeldPl : CH := fun args hl K => match args, hl with
  | [.imm _ _ 4 L, .v (.int .i64 k)], [] => ∃ bs : List Pl, L = (mkG wP gP k bs).map plC ∧ bs.length ≤ 1048576 ∧ (sumW wP bs ≤ 3145728 ∧ ∀ b ∈ bs, smPl b) ∧ 0 ≤ k ∧ k ≤ 1073741824 ∧ K (.v (.int .i64 (k + sumW wP bs))) []
  | _, _ => False
/-! ### Layouts -/

def LaV (a : AV) (l : La) : Prop := ∃ b1 z1 b2 z2 b3 z3, a = .agg [.imm b1 z1 4 (l.pls.map plC), .v (.int .i64 l.stack), .imm b2 z2 1 (l.slots.map intC), .v (.int .i64 l.flash), .v (.int .i64 l.ram), .imm b3 z3 1 (l.tgts.map tgsC)]
structure smLa (l : La) : Prop where
  pls : l.pls.length ≤ 1048576
  pl : ∀ p ∈ l.pls, smPl p
  plw : sumW wP l.pls ≤ 3145728
  slots : l.slots.length ≤ 1048576
  tgts : l.tgts.length ≤ 1048576
  tg : ∀ t ∈ l.tgts, smTgs t
  tgw : sumW wT l.tgts ≤ 3145728
def hEqLa : CH := fun args hl K => match args, hl with
  | [a, b], [] => ∃ l, LaV a l ∧ LaV b l ∧ smLa l ∧ K (.v (.bool true)) []
  | _, _ => False
def cx_s_eqLayout : Ctx := mkC [(46, callM [] true hEqPlace), (47, callM [] true hEqInt), (48, callM [] true hEqTargetS)]
theorem cx_s_eqLayout_ok : CtxOk Tryz.prog cx_s_eqLayout := mkC_ok (mem1 ⟨s_eqPlaceS, fnOk Tryz.func46 rfl rfl⟩ (mem1 ⟨s_eqIntS, fnOk Tryz.func47 rfl rfl⟩ (mem1 ⟨s_eqTargetSS, fnOk Tryz.func48 rfl rfl⟩ mem0)))
set_option maxRecDepth 100000 in
set_option pp.maxSteps 1500 in
set_option maxHeartbeats 4000000 in
theorem s_eqLayout : HSound Tryz.prog 14 (callM [] true hEqLa) := by
  refine callM_sound cx_s_eqLayout_ok mixed Tryz.func14 rfl fun args hl K hp => ?_
  unfold hEqLa at hp
  split at hp
  · rename_i a b
    obtain ⟨l, ⟨b1, z1, b2, z2, b3, z3, rfl⟩, ⟨b1', z1', b2', z2', b3', z3', rfl⟩, hb, hp⟩ := hp
    obtain ⟨g1, g2, _, g3, g4, g5, _⟩ := hb
    repeat' ((first
      | refine Exists.intro l.pls (And.intro rfl (And.intro rfl (And.intro g2 (And.intro g1 ?_))))
      | refine Exists.intro l.slots (And.intro rfl (And.intro rfl (And.intro g3 ?_)))
      | refine Exists.intro l.tgts (And.intro rfl (And.intro rfl (And.intro g5 (And.intro g4 ?_))))
      | refine And.intro (fun h => ?_) (fun h => ?_)
      | fail) <;> try first | (exfalso; simp at h; done) | cases h)
    all_goals exact hp
  · exact hp.elim
def markLa (k : Int) (l : La) : La := ⟨mkG wP gP k l.pls, l.stack, marksInt (k + sumW wP l.pls) l.slots.length, l.flash, l.ram, mkG wT gT (k + sumW wP l.pls + l.slots.length) l.tgts⟩
def markWL (l : La) : Int := (sumW wP l.pls : Int) + l.slots.length + (sumW wT l.tgts : Int)
def hMarkLa : CH := fun args hl K => match args, hl with
  | [.agg [.slc 0 0 a _, .v (.int .i64 s), .slc 1 0 b _, .v (.int .i64 f), .v (.int .i64 r), .slc 2 0 c _], .v (.int .i64 k)], [.lst 4 P, .lst 1 S, .lst 1 T] => ∃ l : La, P = l.pls.map plC ∧ S = l.slots.map intC ∧ T = l.tgts.map tgsC ∧ a = l.pls.length ∧ b = l.slots.length ∧ c = l.tgts.length ∧ s = l.stack ∧ f = l.flash ∧ r = l.ram ∧ smLa l ∧ 0 ≤ k ∧ k ≤ 536870912 ∧ K (.v (.int .i64 (k + markWL l))) (laH (markLa k l))
  | _, _ => False
def cx_s_markLayout : Ctx := mkC [(61, callM [.rw] false hMarkPl), (56, callM [.rw] false hMarkInt), (62, callM [.rw] false hMarkTgS)]
theorem cx_s_markLayout_ok : CtxOk Tryz.prog cx_s_markLayout := mkC_ok (mem1 ⟨s_markPlaceS, fnOk Tryz.func61 rfl rfl⟩ (mem1 ⟨s_markIntS, fnOk Tryz.func56 rfl rfl⟩ (mem1 ⟨s_markTargetSS, fnOk Tryz.func62 rfl rfl⟩ mem0)))
set_option maxRecDepth 100000 in
set_option pp.maxSteps 1500 in
set_option maxHeartbeats 4000000 in
theorem s_markLayout : HSound Tryz.prog 19 (callM [.ag [.rw, .ro, .rw, .ro, .ro, .rw]] false hMarkLa) := by
  refine callM_sound cx_s_markLayout_ok mixed Tryz.func19 rfl fun args hl K hp => ?_
  unfold hMarkLa at hp
  split at hp
  · obtain ⟨l, rfl, rfl, rfl, rfl, rfl, rfl, rfl, rfl, rfl, hb, hk0, hk1, hp⟩ := hp
    obtain ⟨g1, g2, gw, g3, g4, g5, gv⟩ := hb
    repeat' (first
      | refine Exists.intro l.pls (And.intro rfl (And.intro rfl (And.intro g1 (And.intro ⟨gw, g2⟩ (And.intro (by omega) (And.intro (by omega) ?_))))))
      | refine Exists.intro l.slots (And.intro rfl (And.intro rfl (And.intro g3 (And.intro (by omega) (And.intro (by omega) ?_)))))
      | refine Exists.intro l.tgts (And.intro rfl (And.intro rfl (And.intro g4 (And.intro gv (And.intro (by omega) (And.intro (by omega) ?_))))))
      | refine And.intro (closed_Place _) ?_
      | refine And.intro (closed_Int _) ?_
      | refine And.intro (closed_TargetS _) ?_
      | fail)
    try (conv => whnf)
    simp only [markWL, ← Int.add_assoc] at hp
    exact hp
  · exact hp.elim
def hHeldLa : CH := fun args hl K => match args, hl with
  | [a, .v (.int .i64 k)], [] => ∃ l, LaV a (markLa k l) ∧ smLa l ∧ 0 ≤ k ∧ k ≤ 536870912 ∧ K (.v (.int .i64 (k + markWL l))) []
  | _, _ => False
end Go.Proofs.YtbfjkjdbdejnmaaGreat.Ab

/- Layouts that Link gives: the plain law (every size of a slot tried, against the one that fits). No condition. -/
namespace Go.Proofs.YtbfjkjdbdejnmaaGreat.Ab
set_option linter.unusedVariables false
set_option linter.unusedSimpArgs false

def endsF (l : La) : Int := match l.slots with
  | s :: _ => s
  | [] => IntKind.i64.wrap (65536 + l.ram)
def stackF (l : La) : Int := IntKind.i64.wrap (endsF l - l.stack)
def wordsF (l : La) : Int := if 1 ≤ l.slots.length ∧ l.slots.length ≤ 4 then IntKind.i64.wrap ((IntKind.i64.wrap ((IntKind.i64.wrap (IntKind.i64.wrap (65536 + l.ram) - l.slots.getD 0 0)).tdiv l.slots.length)).tdiv 4) else 1
def cfL (l : La) (w : Int) : Cf := ⟨l.slots.length, w, stackF l, 0⟩
/-- Link gives this layout. -/
def GivesP (ms : List Mo) (l : La) (w : Int) : Prop := linkC ms (cfL l w) = 0 ∧ laF ms (cfL l w) = l
def RealP (ms : List Mo) (l : La) : Prop := GivesP ms l (wordsF l)
def TriedP (ms : List Mo) (l : La) : Prop := if l.slots.length = 0 then GivesP ms l 1 else ∃ k : Nat, k < 8 ∧ GivesP ms l (8 + 8 * (k : Int))
theorem slP_all (w r : Nat) : ∀ k, (slP w r k).2 = r + k * rup (4 * w)
  | 0 => by simp [slP]
  | k + 1 => by
    simp only [slP]
    rw [slP_all w r k, Nat.add_mul, Nat.one_mul]
    omega
theorem slP_head (w r k : Nat) : (slP w r (k + 1)).1.getD 0 0 = 65536 + (r : Int) := by
  induction k with
  | zero => rfl
  | succ k ih =>
    have hl : 0 < (slP w r (k + 1)).1.length := by rw [slP_len]; omega
    have e : (slP w r (k + 1 + 1)).1 = (slP w r (k + 1)).1 ++ [65536 + ((slP w r (k + 1)).2 : Int)] := rfl
    rw [e, List.getD_eq_getElem?_getD, List.getElem?_append_left hl, ← List.getD_eq_getElem?_getD]
    exact ih
theorem link_cfg {ms : List Mo} {c : Cf} (h : linkC ms c = 0) : Sound ms c := by
  have : soundF ms c = 0 := by
    unfold linkC at h
    split at h
    · omega
    · omega
  exact sound_of this
/-- What the sizes say of the words. -/
theorem words_of {ms : List Mo} {l : La} {w : Int} (h : GivesP ms l w) (h1 : 1 ≤ l.slots.length) : ∃ W : Nat, w = W ∧ W ≤ 64 ∧ 1 ≤ W ∧ l.slots.length ≤ 4 ∧ wordsF l = ((rup (4 * W) / 4 : Nat) : Int) := by
  obtain ⟨hc, hl⟩ := h
  obtain ⟨⟨ca0, ca1, cb0, cb1, cc0, cc1, ccm⟩, ⟨ln0, ln1⟩, hgm, _⟩ := link_cfg hc
  simp only [cfL] at ca0 ca1 cb0 cb1 cc0 cc1 ccm
  obtain ⟨W, rfl⟩ := Int.eq_ofNat_of_zero_le (show 0 ≤ w by omega)
  obtain ⟨N, hN⟩ : ∃ N, l.slots.length = N + 1 := ⟨l.slots.length - 1, by omega⟩
  have hram : l.ram = (slP W ((plP ms ms.length).2.2 + (stackF l).toNat) (N + 1)).2 := by
    conv => lhs; rw [← hl]
    simp only [laF, cfL, hN, Int.toNat_natCast]
  have hsl : l.slots.getD 0 0 = 65536 + (((plP ms ms.length).2.2 + (stackF l).toNat : Nat) : Int) := by
    conv => lhs; rw [← hl]
    simp only [laF, cfL, hN, Int.toNat_natCast]
    exact slP_head _ _ _
  obtain ⟨pb1, pb2⟩ := plP_le hgm ms.length
  have hr := rup_le (4 * W)
  refine ⟨W, rfl, by omega, by omega, by omega, ?_⟩
  rw [wordsF, if_pos (by omega), hram, hsl, slP_all, hN]
  have hR : (plP ms ms.length).2.2 + (stackF l).toNat ≤ 100000 := by omega
  generalize (plP ms ms.length).2.2 + (stackF l).toNat = R at *
  generalize hU : rup (4 * W) = U at *
  have hU2 : U % 32 = 0 := by rw [← hU]; exact rup_mod _
  have hm : (N + 1) * U ≤ 4 * 1000 := by
    have h4 : N + 1 ≤ 4 := by omega
    calc (N + 1) * U ≤ 4 * U := Nat.mul_le_mul_right _ h4
      _ ≤ 4 * 1000 := by omega
  rw [wrap64 (x := 65536 + ((R + (N + 1) * U : Nat) : Int)) (by omega), wrap64 (x := 65536 + ((R + (N + 1) * U : Nat) : Int) - (65536 + (R : Int))) (by omega), show 65536 + ((R + (N + 1) * U : Nat) : Int) - (65536 + (R : Int)) = (((N + 1) * U : Nat) : Int) by omega]
  have e1 : (((N + 1) * U : Nat) : Int).tdiv ((N + 1 : Nat) : Int) = (U : Int) := by
    rw [Int.tdiv_eq_ediv_of_nonneg (by omega), Int.natCast_mul, Int.mul_ediv_cancel_left _ (by omega)]
  rw [e1, wrap64 (x := (U : Int)) (by omega)]
  have e2 : (U : Int).tdiv 4 = ((U / 4 : Nat) : Int) := by
    rw [Int.tdiv_eq_ediv_of_nonneg (by omega)]
    omega
  rw [e2, wrap64 (by omega)]
theorem real_tried (ms : List Mo) (l : La) : TriedP ms l ↔ RealP ms l := by
  unfold TriedP RealP
  split
  · rename_i h0
    rw [show wordsF l = 1 by rw [wordsF, if_neg (by omega)]]
  · rename_i h0
    constructor
    · rintro ⟨k, hk, h⟩
      obtain ⟨W, hW, h64, h1, h4, hw⟩ := words_of h (by omega)
      have : W = 8 + 8 * k := by omega
      subst this
      rw [hw, show rup (4 * (8 + 8 * k)) / 4 = 8 + 8 * k by unfold rup; omega]
      rw [show (((8 + 8 * k : Nat)) : Int) = 8 + 8 * (k : Int) by omega]
      exact h
    · intro h
      by_cases h4 : l.slots.length ≤ 4
      · obtain ⟨W, hW, h64, h1, _, hw⟩ := words_of h (by omega)
        rw [hW] at hw
        have hr : rup (4 * W) / 4 = W := by omega
        have hm := rup_mod (4 * W)
        have h8 : W % 8 = 0 := by unfold rup at hr; omega
        refine ⟨W / 8 - 1, by omega, ?_⟩
        rw [show 8 + 8 * ((W / 8 - 1 : Nat) : Int) = (W : Int) by omega, ← hW]
        exact h
      · exfalso
        obtain ⟨⟨_, ca1, _⟩, _⟩ := link_cfg h.1
        simp only [cfL] at ca1
        omega
end Go.Proofs.YtbfjkjdbdejnmaaGreat.Ab
