/- Encode: both programs answer alike. No condition. -/
import Derived.Test.YtijjonafmmhhbaaGreatTBase
namespace Go.Proofs.YtijjonafmmhhbaaGreat.Ab

def l3U (op : Int) : Int := if op = 1 ∨ op = 25 then 0 else if op = 2 ∨ op = 3 ∨ op = 21 ∨ op = 22 then 5 else if op = 6 ∨ (14 ≤ op ∧ op ≤ 19) then 7 else
  if op = 20 ∨ op = 23 ∨ op = 24 then 4 else if 4 ≤ op ∧ op ≤ 13 then 3 else -1
theorem l3U_cases (op : Int) : (l3U op = 0 ∧ (op = 1 ∨ op = 25)) ∨ (l3U op = 5 ∧ (op = 2 ∨ op = 3 ∨ op = 21 ∨ op = 22)) ∨ (l3U op = 7 ∧ (op = 6 ∨ (14 ≤ op ∧ op ≤ 19))) ∨ (l3U op = 4 ∧ (op = 20 ∨ op = 23 ∨ op = 24)) ∨
    (l3U op = 3 ∧ 4 ≤ op ∧ op ≤ 13 ∧ op ≠ 6) ∨ (l3U op = -1 ∧ (op ≤ 0 ∨ 26 ≤ op)) := by
  unfold l3U
  repeat' split
  all_goals omega
def hUses : CH := fun args hl K => match args, hl with
  | [.v (.int .i64 n)], [] => K (.v (.int .i64 (l3U n))) []
  | _, _ => False
set_option maxRecDepth 100000 in
set_option maxHeartbeats 1000000 in
theorem s_l3Uses : HSound Tryz.prog 103 (callM [] false hUses) := by
  refine callM_sound cx0_ok mixed Tryz.func103 rfl fun args hl K hp => ?_
  unfold hUses at hp
  split at hp
  · rename_i n
    repeat' ((first | refine And.intro (fun h1 => ?_) (fun h1 => ?_) | refine And.intro (by decide) ?_) <;> try cases h1)
    all_goals refine fin_i hp ?_
    all_goals clear hp
    all_goals simp only [decide_eq_true_eq, decide_eq_false_iff_not, beq_iff_eq, beq_eq_false_iff_ne, ne_eq] at *
    all_goals have := l3U_cases n
    all_goals omega
  · exact hp.elim

def insOk (a b c d : Int) : Bool := decide (0 ≤ l3U a ∧ 0 ≤ b ∧ b ≤ 7 ∧ 0 ≤ c ∧ c ≤ 7 ∧ 0 ≤ d ∧ d ≤ 65535 ∧ (l3U a = 5 ∨ l3U a = 7 ∨ l3U a = 3 ∨ b = 0) ∧ (l3U a = 7 ∨ l3U a = 3 ∨ c = 0) ∧ (l3U a = 5 ∨ l3U a = 7 ∨ l3U a = 4 ∨ d = 0))
def hIns : CH := fun args hl K => match args, hl with
  | [.agg [.v (.int .i64 a), .v (.int .i64 b), .v (.int .i64 c), .v (.int .i64 d)]], [] => K (.v (.bool (insOk a b c d))) []
  | _, _ => False
def cxIns : Ctx := mkC [(103, callM [] false hUses)]
theorem cxIns_ok : CtxOk Tryz.prog cxIns := mkC_ok (mem1 ⟨s_l3Uses, fnOk Tryz.func103 rfl rfl⟩ mem0)
theorem l3_words (u : Int) (hu : u = 0 ∨ u = 5 ∨ u = 7 ∨ u = 4 ∨ u = 3 ∨ u = -1) : (Int.tmod u 2 = 1 ↔ (u = 5 ∨ u = 7 ∨ u = 3)) ∧ (Int.tmod (IntKind.i64.wrap (u.tdiv 2)) 2 = 1 ↔ (u = 7 ∨ u = 3)) ∧ (IntKind.i64.wrap (u.tdiv 4) = 1 ↔ (u = 5 ∨ u = 7 ∨ u = 4)) := by
  rcases hu with rfl | rfl | rfl | rfl | rfl | rfl <;> decide
set_option maxRecDepth 100000 in
set_option maxHeartbeats 2000000 in
theorem s_l3InsOk : HSound Tryz.prog 73 (callM [] false hIns) := by
  refine callM_sound cxIns_ok mixed Tryz.func73 rfl fun args hl K hp => ?_
  unfold hIns at hp
  split at hp
  · rename_i a b c d
    repeat' ((first | refine And.intro (fun h1 => ?_) (fun h1 => ?_) | refine And.intro (by decide) ?_) <;> try cases h1)
    all_goals refine fin_b hp ?_
    all_goals clear hp
    all_goals have hu : l3U a = 0 ∨ l3U a = 5 ∨ l3U a = 7 ∨ l3U a = 4 ∨ l3U a = 3 ∨ l3U a = -1 := by have := l3U_cases a; omega
    all_goals obtain ⟨w1, w2, w3⟩ := l3_words _ hu
    all_goals simp only [insOk]
    all_goals generalize Int.tmod (IntKind.i64.wrap ((l3U a).tdiv 2)) 2 = q2 at *
    all_goals generalize IntKind.i64.wrap ((l3U a).tdiv 4) = q3 at *
    all_goals generalize (l3U a).tmod 2 = q1 at *
    all_goals generalize l3U a = u at *
    all_goals rw [Bool.eq_iff_iff]
    all_goals simp only [decide_eq_true_eq, decide_eq_false_iff_not, beq_iff_eq, beq_eq_false_iff_ne, ne_eq, reduceCtorEq, iff_false, iff_true] at *
    all_goals omega
  · exact hp.elim

def usesB (n : Int) : AV := .agg [.v (.bool (decide (l3U n = 5 ∨ l3U n = 7 ∨ l3U n = 3))), .v (.bool (decide (l3U n = 7 ∨ l3U n = 3))), .v (.bool (decide (l3U n = 5 ∨ l3U n = 7 ∨ l3U n = 4)))]
def hUsesOf : CH := fun args hl K => match args, hl with
  | [.v (.int .i64 n)], [] => K (.tup [usesB n, .v (.bool (decide (0 ≤ l3U n)))]) []
  | _, _ => False
theorem fin_u {K : AV → HP → Prop} {h : HP} {n : Int} {p q r s : Bool} (hp : K (.tup [usesB n, .v (.bool (decide (0 ≤ l3U n)))]) h) (e : p = decide (l3U n = 5 ∨ l3U n = 7 ∨ l3U n = 3)) (e1 : q = decide (l3U n = 7 ∨ l3U n = 3))
    (e2 : r = decide (l3U n = 5 ∨ l3U n = 7 ∨ l3U n = 4)) (e3 : s = decide (0 ≤ l3U n)) : K (.tup [.agg [.v (.bool p), .v (.bool q), .v (.bool r)], .v (.bool s)]) h := by
  subst e e1 e2 e3
  exact hp
set_option maxRecDepth 100000 in
set_option maxHeartbeats 2000000 in
theorem s_usesOf : HSound Tryz.prog 129 (callM [] false hUsesOf) := by
  refine callM_sound cx0_ok mixed Tryz.func129 rfl fun args hl K hp => ?_
  unfold hUsesOf at hp
  split at hp
  · rename_i n
    repeat' ((first | refine And.intro (fun h1 => ?_) (fun h1 => ?_) | refine And.intro (by decide) ?_) <;> try cases h1)
    all_goals refine fin_u (n := n) hp ?_ ?_ ?_ ?_
    all_goals clear hp
    all_goals have := l3U_cases n
    all_goals rw [Bool.eq_iff_iff]
    all_goals simp only [decide_eq_true_eq, decide_eq_false_iff_not, beq_iff_eq, beq_eq_false_iff_ne, ne_eq, reduceCtorEq, false_iff, true_iff] at *
    all_goals omega
  · exact hp.elim

def hField : CH := fun args hl K => match args, hl with
  | [.v (.int .i64 v), .v (.int .i64 m), .v (.bool u)], [] => K (.v (.bool (decide (v = 0 ∨ (u = true ∧ 0 < v ∧ v ≤ m))))) []
  | _, _ => False
set_option maxRecDepth 100000 in
theorem s_field : HSound Tryz.prog 130 (callM [] false hField) := by
  refine callM_sound cx0_ok mixed Tryz.func130 rfl fun args hl K hp => ?_
  unfold hField at hp
  split at hp
  · rename_i v m u
    repeat' ((first | refine And.intro (fun h1 => ?_) (fun h1 => ?_) | refine And.intro (by decide) ?_) <;> try cases h1)
    all_goals refine fin_b hp ?_
    all_goals clear hp
    all_goals rw [Bool.eq_iff_iff]
    all_goals simp [decide_eq_true_eq] at *
    all_goals omega
  · exact hp.elim
def cxOk : Ctx := mkC [(129, callM [] false hUsesOf), (130, callM [] false hField)]
theorem cxOk_ok : CtxOk Tryz.prog cxOk := mkC_ok (mem1 ⟨s_usesOf, fnOk Tryz.func129 rfl rfl⟩ (mem1 ⟨s_field, fnOk Tryz.func130 rfl rfl⟩ mem0))
set_option maxRecDepth 100000 in
set_option maxHeartbeats 2000000 in
theorem s_ok : HSound Tryz.prog 124 (callM [] false hIns) := by
  refine callM_sound cxOk_ok mixed Tryz.func124 rfl fun args hl K hp => ?_
  unfold hIns at hp
  split at hp
  · rename_i a b c d
    repeat' ((first | refine And.intro (fun h1 => ?_) (fun h1 => ?_) | refine And.intro (by decide) ?_) <;> try cases h1)
    all_goals refine fin_b hp ?_
    all_goals clear hp
    all_goals simp only [insOk]
    all_goals have hu : l3U a = 0 ∨ l3U a = 5 ∨ l3U a = 7 ∨ l3U a = 4 ∨ l3U a = 3 ∨ l3U a = -1 := by have := l3U_cases a; omega
    all_goals generalize l3U a = u at *
    all_goals rw [Bool.eq_iff_iff]
    all_goals simp only [decide_eq_true_eq, decide_eq_false_iff_not, reduceCtorEq, iff_false, iff_true] at *
    all_goals omega
  · exact hp.elim

theorem insOk_bounds {a b c d : Int} (h : insOk a b c d = true) : 1 ≤ a ∧ a ≤ 25 ∧ 0 ≤ b ∧ b ≤ 7 ∧ 0 ≤ c ∧ c ≤ 7 ∧ 0 ≤ d ∧ d ≤ 65535 := by
  simp only [insOk, decide_eq_true_eq] at h
  have := l3U_cases a
  omega
def encV (a b c d : Int) : Int := if insOk a b c d then a * 67108864 + b * 8388608 + c * 1048576 + d else 0
def hEnc : CH := fun args hl K => match args, hl with
  | [.agg [.v (.int .i64 a), .v (.int .i64 b), .v (.int .i64 c), .v (.int .i64 d)]], [] => K (.tup [.v (.int .i64 (encV a b c d)), .v (.bool (insOk a b c d))]) []
  | _, _ => False
def cxSEnc : Ctx := mkC [(73, callM [] false hIns)]
theorem cxSEnc_ok : CtxOk Tryz.prog cxSEnc := mkC_ok (mem1 ⟨s_l3InsOk, fnOk Tryz.func73 rfl rfl⟩ mem0)
def cxIEnc : Ctx := mkC [(124, callM [] false hIns)]
theorem cxIEnc_ok : CtxOk Tryz.prog cxIEnc := mkC_ok (mem1 ⟨s_ok, fnOk Tryz.func124 rfl rfl⟩ mem0)
set_option maxRecDepth 100000 in
set_option maxHeartbeats 2000000 in
theorem s_spec_Encode : HSound Tryz.prog 63 (callM [] false hEnc) := by
  refine callM_sound cxSEnc_ok mixed Tryz.func63 rfl fun args hl K hp => ?_
  unfold hEnc at hp
  split at hp
  · rename_i a b c d
    refine And.intro (fun h1 => ?_) (fun h1 => ?_)
    · have h1 : insOk a b c d = false := by simpa using h1
      exact fin_ib hp (by simp [encV, h1]) (by rw [h1])
    · have h1 : insOk a b c d = true := by simpa using h1
      have hb := insOk_bounds h1
      refine fin_ib hp ?_ h1
      simp only [encV, h1, if_true]
      rw [wrap64 (x := a * 67108864) (by omega), wrap64 (x := b * 8388608) (by omega), wrap64 (x := c * 1048576) (by omega), wrap64 (x := a * 67108864 + b * 8388608) (by omega), wrap64 (x := a * 67108864 + b * 8388608 + c * 1048576) (by omega), wrap64 (by omega)]
  · exact hp.elim
end Go.Proofs.YtijjonafmmhhbaaGreat.Ab
