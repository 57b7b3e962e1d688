/- Modules: marked. No condition. -/
import Derived.Test.YtijjonafmmhhbaaTMod3
import Derived.Test.YtijjonafmmhhbaaTMemM
import Derived.Test.YtijjonafmmhhbaaTInts2
namespace Go.Proofs.Ytijjonafmmhhbaa.Ab
set_option linter.unusedVariables false
set_option linter.unusedSimpArgs false

/-! ### The text of a mark -/

def digs (n : Nat) (out : ByteArray) : ByteArray := if n = 0 then out else digs (n / 10) (bytesS [IntKind.u8.wrap (IntKind.i64.wrap (48 + (n : Int).tmod 10))] ++ out)
def mkText (k : Int) : ByteArray := if k ≤ 0 then ⟨#[109, 48]⟩ else ⟨#[109]⟩ ++ digs k.toNat .empty
def hMkText : CH := fun args hl K => match args, hl with
  | [.v (.int .i64 k)], [] => 0 ≤ k ∧ k ≤ 1200000000000 ∧ K (.v (.string (mkText k))) []
  | _, _ => False
def cx_s_markText : Ctx := mkC []
theorem cx_s_markText_ok : CtxOk Try.prog cx_s_markText := cx0_ok
set_option maxRecDepth 100000 in
set_option pp.maxSteps 1500 in
set_option maxHeartbeats 4000000 in
theorem s_markText : HSound Try.prog 80 (callM [] false hMkText) := by
  refine callM_sound cx_s_markText_ok mixed Try.func80 rfl fun args hl K hp => ?_
  unfold hMkText at hp
  split at hp
  · rename_i k
    obtain ⟨h0, h1, hp⟩ := hp
    obtain ⟨n, rfl⟩ := Int.eq_ofNat_of_zero_le h0
    refine And.intro (fun h2 => ?_) (fun h2 => ?_)
    · have h2 := of_decide_eq_true h2
      rw [show mkText (n : Int) = ⟨#[109, 48]⟩ from if_pos h2] at hp
      exact hp
    have h2 := of_decide_eq_false h2
    rw [show mkText (n : Int) = ⟨#[109]⟩ ++ digs n .empty from if_neg h2] at hp
    refine Exists.intro true (Exists.intro [0, 3] (Exists.intro (fun m vs h => ∃ (q : Nat) (out : ByteArray), q = m ∧ out.size + q ≤ n ∧ digs q out = digs n .empty ∧ vs = [.v (.int .i64 q), .v (.string out)] ∧ h = []) (And.intro ?_ ?_)))
    · refine Exists.intro [] (Exists.intro n ?_)
      exact ⟨n, .empty, rfl, by simp, rfl, rfl, rfl⟩
    · intro m vs h hI
      obtain ⟨q, out, rfl, hs, hd, rfl, rfl⟩ := hI
      refine And.intro (fun h3 => ?_) (fun h3 => ?_)
      · have h3 := of_decide_eq_true h3
        refine And.intro (by decide) ?_
        refine Exists.intro _ (And.intro rfl (And.intro rfl (And.intro (by intro e he x hx; simp at he; subst he; simp at hx; subst hx; rfl) ?_)))
        refine Exists.intro [IntKind.u8.wrap (IntKind.i64.wrap (48 + (q : Int).tmod 10))] (And.intro rfl ?_)
        refine And.intro (show (bytesS [_]).size + out.size ≤ _ by rw [show (bytesS [IntKind.u8.wrap (IntKind.i64.wrap (48 + (q : Int).tmod 10))]).size = 1 from rfl]; omega) ?_
        refine And.intro (by decide) ?_
        refine Exists.intro [] (Exists.intro (q / 10) (And.intro (by omega) ⟨q / 10, bytesS [IntKind.u8.wrap (IntKind.i64.wrap (48 + (q : Int).tmod 10))] ++ out, rfl, ?_, ?_, ?_, rfl⟩))
        · rw [ByteArray.size_append, show (bytesS [IntKind.u8.wrap (IntKind.i64.wrap (48 + (q : Int).tmod 10))]).size = 1 from rfl]
          omega
        · rw [← hd]
          conv => rhs; rw [digs]
          rw [if_neg (by omega)]
        · have : IntKind.i64.wrap ((q : Int).tdiv 10) = ((q / 10 : Nat) : Int) := by
            rw [Int.tdiv_eq_ediv_of_nonneg (by omega), wrap64 (by omega)]
            omega
          rw [this]
      · have h3 := of_decide_eq_false h3
        have : q = 0 := by omega
        subst this
        rw [show digs 0 out = out by rw [digs]; rfl] at hd
        subst hd
        refine And.intro (by rw [show ({ data := #[109] } : ByteArray).size = 1 from rfl]; omega) ?_
        exact hp
  · exact hp.elim

/-! ### Strings -/

def marksString (k : Int) (n : Nat) : List ByteArray := (List.range n).map fun i : Nat => mkText (k + (i : Int))
theorem mark_stepString (bs : List ByteArray) (k : Int) (i : Nat) (h : i < bs.length) : ((marksString k i ++ bs.drop i).map strC).set i (strC (mkText (k + (i : Int)))) = (marksString k (i + 1) ++ bs.drop (i + 1)).map strC := by
  have hl : ((marksString k i).map strC).length = i := by simp [marksString]
  rw [List.map_append, List.set_append_right _ _ (by omega), hl, Nat.sub_self, List.drop_eq_getElem_cons h, List.map_cons, List.set_cons_zero]
  simp [marksString, List.range_succ]
def hMarkString : CH := fun args hl K => match args, hl with
  | [.slc 0 0 n _, .v (.int .i64 k)], [.lst 1 L] => ∃ bs : List ByteArray, L = bs.map strC ∧ n = bs.length ∧ bs.length ≤ 1048576 ∧ 0 ≤ k ∧ k ≤ 1099511627776 ∧ K (.v (.int .i64 (k + n))) [.lst 1 ((marksString k n).map strC)]
  | _, _ => False
def cx_s_markStringS : Ctx := mkC [(80, callM [] false hMkText)]
theorem cx_s_markStringS_ok : CtxOk Try.prog cx_s_markStringS := mkC_ok (mem1 ⟨s_markText, fnOk Try.func80 rfl rfl⟩ mem0)
set_option maxRecDepth 100000 in
set_option pp.maxSteps 1500 in
set_option maxHeartbeats 4000000 in
theorem s_markStringS : HSound Try.prog 60 (callM [.rw] false hMarkString) := by
  refine callM_sound cx_s_markStringS_ok mixed Try.func60 rfl fun args hl K hp => ?_
  unfold hMarkString at hp
  split at hp
  · rename_i n z0 k _
    obtain ⟨bs, rfl, rfl, hb, hk0, hk1, hp⟩ := hp
    refine Exists.intro false (Exists.intro [0, 1, 5] (Exists.intro (fun m vs h => ∃ i : Nat, i ≤ bs.length ∧ m = bs.length - i ∧ (∃ z, vs = [.slc 0 0 bs.length z, .v (.int .i64 (k + i)), .v (.int .i64 i)]) ∧ h = [.lst 1 ((marksString k i ++ bs.drop i).map strC)]) (And.intro ?_ ?_)))
    · refine Exists.intro bs.length ?_
      exact ⟨0, by omega, rfl, ⟨z0, by simp⟩, rfl⟩
    · intro m vs h hI
      obtain ⟨i, hi, rfl, ⟨z, rfl⟩, rfl⟩ := hI
      refine And.intro (fun h1 => ?_) (fun h1 => ?_)
      · simp only [decide_eq_true_eq] at h1
        have hlt : i < bs.length := by omega
        have hst := mark_stepString bs k i hlt
        have hg : ((marksString k i ++ bs.drop i).map strC)[0 + i]? = some (strC bs[i]) := by
          rw [Nat.zero_add, List.getElem?_map, List.getElem?_append_right (by simp [marksString]), show i - (marksString k i).length = 0 by simp [marksString], List.getElem?_drop, Nat.add_zero, List.getElem?_eq_getElem hlt]
          rfl
        generalize (marksString k i ++ bs.drop i).map strC = L at *
        generalize bs[i] = b0 at hg
        refine And.intro (by omega) (And.intro (by omega) ?_)
        refine Exists.intro i (And.intro rfl (And.intro hlt ?_))
        refine Exists.intro _ (And.intro hg (And.intro (by decide) ?_))
        refine Exists.intro (bs.length - (i + 1)) (And.intro (by omega) ⟨i + 1, by omega, rfl, ⟨z, ?_⟩, ?_⟩)
        · rw [wrap_succ hlt (by omega), wrap64 (x := k + i + 1) (by omega), show k + (i : Int) + 1 = k + ((i + 1 : Nat) : Int) by omega]
        · rw [← hst, Nat.zero_add]
          rfl
      · simp only [decide_eq_false_iff_not] at h1
        have hil : i = bs.length := by omega
        subst hil
        rw [List.drop_length, List.append_nil]
        refine And.intro (closed_String _) ?_
        exact hp
  · exact hp.elim

/-! ### Export: marked and found again -/

def mkExport (k : Int) : Ex := ⟨mkText k, k + 1, k + 1 + 1⟩
def marksExport (k : Int) (n : Nat) : List Ex := (List.range n).map fun i : Nat => mkExport (k + 3 * (i : Int))
def hMarkExport : CH := fun args hl K => match args, hl with
  | [.slc 0 0 n _, .v (.int .i64 k)], [.lst 3 L] => ∃ bs : List Ex, L = bs.map exC ∧ n = bs.length ∧ bs.length ≤ 1048576 ∧ 0 ≤ k ∧ k ≤ 1099511627776 ∧ K (.v (.int .i64 (k + 3 * n))) [.lst 3 ((marksExport k n).map exC)]
  | _, _ => False
theorem mark_stepExport (bs : List Ex) (k : Int) (i : Nat) (h : i < bs.length) : ((marksExport k i ++ bs.drop i).map exC).set i (exC (mkExport (k + 3 * i))) = (marksExport k (i + 1) ++ bs.drop (i + 1)).map exC := by
  have hl : ((marksExport k i).map exC).length = i := by simp [marksExport]
  rw [List.map_append, List.set_append_right _ _ (by omega), hl, Nat.sub_self, List.drop_eq_getElem_cons h, List.map_cons, List.set_cons_zero]
  simp [marksExport, List.range_succ]
def cx_s_markExportS : Ctx := mkC [(80, callM [] false hMkText)]
theorem cx_s_markExportS_ok : CtxOk Try.prog cx_s_markExportS := mkC_ok (mem1 ⟨s_markText, fnOk Try.func80 rfl rfl⟩ mem0)
set_option maxRecDepth 100000 in
set_option pp.maxSteps 1500 in
set_option maxHeartbeats 4000000 in
theorem s_markExportS : HSound Try.prog 61 (callM [.rw] false hMarkExport) := by
  refine callM_sound cx_s_markExportS_ok mixed Try.func61 rfl fun args hl K hp => ?_
  unfold hMarkExport at hp
  split at hp
  · rename_i n z0 k _
    obtain ⟨bs, rfl, rfl, hb, hk0, hk1, hp⟩ := hp
    refine Exists.intro false (Exists.intro [0, 1, 5] (Exists.intro (fun m vs h => ∃ i : Nat, i ≤ bs.length ∧ m = bs.length - i ∧ (∃ z, vs = [.slc 0 0 bs.length z, .v (.int .i64 (k + 3 * i)), .v (.int .i64 i)]) ∧ h = [.lst 3 ((marksExport k i ++ bs.drop i).map exC)]) (And.intro ?_ ?_)))
    · refine Exists.intro bs.length ?_
      exact ⟨0, by omega, rfl, ⟨z0, by simp⟩, rfl⟩
    · intro m vs h hI
      obtain ⟨i, hi, rfl, ⟨z, rfl⟩, rfl⟩ := hI
      refine And.intro (fun h1 => ?_) (fun h1 => ?_)
      · simp only [decide_eq_true_eq] at h1
        have hlt : i < bs.length := by omega
        have hst := mark_stepExport bs k i hlt
        have hL : ((marksExport k i ++ bs.drop i).map exC).length = bs.length := by simp [marksExport]; omega
        have hg : ((marksExport k i ++ bs.drop i).map exC)[0 + i]? = some (exC bs[i]) := by
          rw [Nat.zero_add, List.getElem?_map, List.getElem?_append_right (by simp [marksExport]), show i - (marksExport k i).length = 0 by simp [marksExport], List.getElem?_drop, Nat.add_zero, List.getElem?_eq_getElem hlt]
          rfl
        generalize (marksExport k i ++ bs.drop i).map exC = L at *
        generalize bs[i] = b0 at hg
        have hLi : 0 + i < L.length := by omega
        generalize hκ : k + 3 * (i : Int) = κ at *
        have hκ0 : 0 ≤ κ ∧ κ ≤ 1199511627776 := by omega
        have hw : ∀ x : Int, 0 ≤ x → x ≤ 1200000000000 → IntKind.i64.wrap (x + 1) = x + 1 := fun x _ _ => wrap64 (by omega)
        repeat' (first
          | refine Exists.intro i (And.intro rfl (And.intro hlt ?_))
          | refine Exists.intro _ (And.intro hg (And.intro (by decide) ?_))
          | refine Exists.intro _ (And.intro (get_set (by first | exact hLi | (simp only [List.length_set]; exact hLi))) (And.intro (by decide) ?_))
          | refine And.intro (by omega) (And.intro (by omega) ?_)
          | refine And.intro (by decide) ?_)
        refine Exists.intro (bs.length - (i + 1)) (And.intro (by omega) ⟨i + 1, by omega, rfl, ⟨z, ?_⟩, ?_⟩)
        · rw [wrap_succ hlt (by omega), show k + 3 * ((i + 1 : Nat) : Int) = κ + 3 by omega]
          have hw0 := hw (κ) (by omega) (by omega)
          have hw1 := hw (κ + 1) (by omega) (by omega)
          have hw2 := hw (κ + 1 + 1) (by omega) (by omega)
          try simp only [hw0, hw1, hw2]
          simp [Int.add_assoc]
        · rw [← hst]
          simp only [List.set_set, Nat.zero_add]
          have hw0 := hw (κ) (by omega) (by omega)
          have hw1 := hw (κ + 1) (by omega) (by omega)
          have hw2 := hw (κ + 1 + 1) (by omega) (by omega)
          try simp only [hw0, hw1, hw2]
          rfl
      · simp only [decide_eq_false_iff_not] at h1
        have hil : i = bs.length := by omega
        subst hil
        rw [List.drop_length, List.append_nil]
        refine And.intro (closed_Export _) ?_
        exact hp
  · exact hp.elim

/-! ### Banks -/

def lensB (bs : List (List Int)) : Nat := (bs.map List.length).sum
def markBk (k : Int) : List (List Int) → List (List Int)
  | [] => []
  | b :: bs => marksInt k b.length :: markBk (k + b.length) bs
theorem markBk_app (k : Int) : ∀ (l r : List (List Int)), markBk k (l ++ r) = markBk k l ++ markBk (k + lensB l) r
  | [], r => by simp [markBk, lensB]
  | b :: l, r => by
    simp only [List.cons_append, markBk]
    rw [markBk_app]
    simp only [List.cons.injEq, true_and, lensB, List.map_cons, List.sum_cons]
    rw [show k + (b.length : Int) + ((List.map List.length l).sum : Nat) = k + ((b.length + (List.map List.length l).sum : Nat) : Int) by omega]
theorem markBk_len (k : Int) : ∀ l, (markBk k l).length = l.length
  | [] => rfl
  | b :: l => by simp [markBk, markBk_len (k + b.length) l]
def hMarkIntSS : CH := fun args hl K => match args, hl with
  | [.slc 0 0 n _, .v (.int .i64 k)], [.lst 1 L] => ∃ bs : List (List Int), L = bs.map bankC ∧ n = bs.length ∧ bs.length ≤ 1048576 ∧ lensB bs ≤ 1048576 ∧ 0 ≤ k ∧ k ≤ 1073741824 ∧ K (.v (.int .i64 (k + lensB bs))) [.lst 1 ((markBk k bs).map bankC)]
  | _, _ => False
theorem bk_step {bs : List (List Int)} {k : Int} {i : Nat} {b : List Int} (h : bs[i]? = some b) : ((markBk k (bs.take i) ++ bs.drop i).map bankC).set i (bankC (marksInt (k + lensB (bs.take i)) b.length)) = (markBk k (bs.take (i + 1)) ++ bs.drop (i + 1)).map bankC := by
  obtain ⟨hi, hb⟩ := List.getElem?_eq_some_iff.1 h
  have hl : ((markBk k (bs.take i)).map bankC).length = i := by rw [List.length_map, markBk_len, List.length_take]; omega
  rw [List.map_append, List.set_append_right _ _ (by omega), hl, Nat.sub_self, List.drop_eq_getElem_cons hi, List.map_cons, List.set_cons_zero]
  rw [List.take_add_one, h]
  simp only [Option.toList]
  rw [markBk_app]
  simp [markBk]
def cx_s_markIntSS : Ctx := mkC [(58, callM [.rw] false hMarkInt)]
theorem cx_s_markIntSS_ok : CtxOk Try.prog cx_s_markIntSS := mkC_ok (mem1 ⟨s_markIntS, fnOk Try.func58 rfl rfl⟩ mem0)
set_option maxRecDepth 100000 in
set_option pp.maxSteps 1500 in
set_option maxHeartbeats 4000000 in
theorem s_markIntSS : HSound Try.prog 59 (callM [.rw] false hMarkIntSS) := by
  refine callM_sound cx_s_markIntSS_ok mixed Try.func59 rfl fun args hl K hp => ?_
  unfold hMarkIntSS at hp
  split at hp
  · rename_i n z0 k _
    obtain ⟨bs, rfl, rfl, hb, hw, hk0, hk1, hp⟩ := hp
    refine Exists.intro true (Exists.intro [0, 1, 5] (Exists.intro (fun m vs h => ∃ i : Nat, i ≤ bs.length ∧ m = bs.length - i ∧ vs = [.slc 0 0 bs.length false, .v (.int .i64 (k + lensB (bs.take i))), .v (.int .i64 i)] ∧ h = [.lst 1 ((markBk k (bs.take i) ++ bs.drop i).map bankC)]) (And.intro ?_ ?_)))
    · refine Exists.intro [] ?_
      refine And.intro (closed_IntS _) ?_
      refine Exists.intro bs.length ?_
      exact ⟨0, by omega, rfl, by simp [lensB], rfl⟩
    · intro m vs h hI
      obtain ⟨i, hi, rfl, rfl, rfl⟩ := hI
      refine And.intro (fun h1 => ?_) (fun h1 => ?_)
      · simp only [decide_eq_true_eq] at h1
        have hlt : i < bs.length := by omega
        obtain ⟨b, hbi⟩ : ∃ b, bs[i]? = some b := ⟨_, List.getElem?_eq_getElem hlt⟩
        have hst := bk_step (k := k) hbi
        have hcl := closed_IntS (markBk k (bs.take (i + 1)) ++ bs.drop (i + 1))
        have hle : lensB (bs.take i) ≤ 1048576 := by have := sum_take_le List.length bs i; simp only [lensB] at *; omega
        have hsum : lensB (bs.take (i + 1)) = lensB (bs.take i) + b.length := sum_take (f := List.length) hbi
        have hbl : b.length ≤ 1048576 := by have := le_sum (f := List.length) (List.mem_of_getElem? hbi); simp only [lensB] at hw; omega
        have hml := marksInt_len (k + lensB (bs.take i)) b.length
        have hg : ((markBk k (bs.take i) ++ bs.drop i).map bankC)[0 + i]? = some (bankC b) := by
          have e : (markBk k (bs.take i)).length = i := by rw [markBk_len, List.length_take]; omega
          rw [Nat.zero_add, List.getElem?_map, List.getElem?_append_right (by omega), e, Nat.sub_self, List.getElem?_drop, Nat.add_zero, hbi]
          rfl
        rw [← hst] at hcl
        have hlen : ((markBk k (bs.take i) ++ bs.drop i).map bankC).length = bs.length := by rw [List.length_map, List.length_append, markBk_len, List.length_take, List.length_drop]; omega
        generalize (markBk k (bs.take i) ++ bs.drop i).map bankC = L at *
        generalize hS : lensB (bs.take i) = S at *
        refine Exists.intro i (And.intro rfl (And.intro hlt ?_))
        refine Exists.intro _ (And.intro hg (And.intro (by decide) ?_))
        refine And.intro (closed_Int _) ?_
        refine Exists.intro b (And.intro rfl (And.intro (List.length_map _) (And.intro hbl (And.intro (by omega) (And.intro (by omega) ?_)))))
        refine Exists.intro [(0, 0 + i, 0)] ?_
        refine Exists.intro _ (And.intro (get_set (by omega)) ?_)
        refine Exists.intro _ (And.intro (List.take_of_length_le (by simp only [List.length_map, marksInt_len]; exact Nat.le_refl _)) (And.intro (by simp only [List.length_map, marksInt_len]) (And.intro (closed_Int _) ?_)))
        have e9 : (L.set (0 + i) [.slc 1 0 (List.map intC b).length false]).set (0 + i) [.sl 1 ((marksInt (k + S) (List.map intC b).length).map intC)] = L.set i (bankC (marksInt (k + S) b.length)) := by
          rw [List.set_set, Nat.zero_add, List.length_map]
          rfl
        refine And.intro (show ClosedL ((L.set (0 + i) _).set (0 + i) _) from e9 ▸ hcl) ?_
        refine Exists.intro (bs.length - (i + 1)) (And.intro (by omega) ⟨i + 1, by omega, rfl, ?_, ?_⟩)
        · rw [wrap_succ hlt (by omega), hsum, List.length_map, show k + (S : Int) + (b.length : Int) = k + ((S + b.length : Nat) : Int) by omega]
        · rw [← hst, ← e9]
      · simp only [decide_eq_false_iff_not] at h1
        have hil : i = bs.length := by omega
        subst hil
        rw [List.drop_length, List.append_nil, List.take_length]
        refine And.intro (closed_IntS _) ?_
        exact hp
  · exact hp.elim
end Go.Proofs.Ytijjonafmmhhbaa.Ab
