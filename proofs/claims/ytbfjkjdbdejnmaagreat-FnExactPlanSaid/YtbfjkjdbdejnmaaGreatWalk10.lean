/- Functions walked, part 10. No condition. -/
import Derived.Test.YtbfjkjdbdejnmaaGreatWalk8
import Derived.Test.YtbfjkjdbdejnmaaGreatWalk9
import Derived.Test.YtbfjkjdbdejnmaaGreatWalk1
import Derived.Test.YtbfjkjdbdejnmaaGreatWalk2
import Derived.Test.YtbfjkjdbdejnmaaGreatWalk3
set_option linter.unusedVariables false
set_option linter.unusedSimpArgs false
/- Layouts compared, in both answers. No condition. -/
namespace Go.Proofs.YtbfjkjdbdejnmaaGreat.Ab
set_option linter.unusedVariables false
set_option linter.unusedSimpArgs false
set_option maxRecDepth 100000

theorem take_stepG {α : Type} {xs ys : List α} {i : Nat} {a : α} (h : xs.take i = ys.take i) (ha : xs[i]? = some a) (hb : ys[i]? = some a) : xs.take (i + 1) = ys.take (i + 1) := by
  rw [List.take_add_one, List.take_add_one, h, ha, hb]
theorem take_end {α : Type} {xs ys : List α} {i : Nat} (h : xs.take i = ys.take i) (hl : xs.length = ys.length) (hi : ¬ i < xs.length) : xs = ys := by
  rw [List.take_of_length_le (by omega), List.take_of_length_le (by omega)] at h
  exact h
theorem ne_at {α : Type} {xs ys : List α} {i : Nat} {a b : α} (ha : xs[i]? = some a) (hb : ys[i]? = some b) (h : a ≠ b) : xs ≠ ys := by
  rintro rfl
  rw [ha] at hb
  cases hb
  exact h rfl
def hEqNum : CH := fun args hl K => match args, hl with
  | [.imm _ _ 1 l, .imm _ _ 1 r], [] => ∃ xs ys : List Int, l = xs.map intC ∧ r = ys.map intC ∧ xs.length ≤ 1048576 ∧ (xs = ys → K (.v (.bool true)) []) ∧ (xs ≠ ys → K (.v (.bool false)) [])
  | _, _ => False
def cx_s_EqualInt : Ctx := mkC []
theorem cx_s_EqualInt_ok : CtxOk Tryz.prog cx_s_EqualInt := cx0_ok
set_option maxRecDepth 100000 in
set_option pp.maxSteps 1500 in
theorem s_EqualInt : HSound Tryz.prog 150 (callM [] true hEqNum) := by
  refine callM_sound cx_s_EqualInt_ok mixed Tryz.func150 rfl fun args hl K hp => ?_
  unfold hEqNum at hp
  split at hp
  · rename_i t z l t' z' r
    obtain ⟨xs, ys, rfl, rfl, ha, hp1, hp2⟩ := hp
    refine And.intro (fun h1 => ?_) (fun h1 => ?_)
    · exact hp2 (by rintro rfl; simp at h1)
    have hlen : xs.length = ys.length := by simp at h1; omega
    clear h1
    refine Exists.intro false (Exists.intro [0, 1, 12, 13] (Exists.intro (fun m vs h => ∃ i : Nat, i ≤ xs.length ∧ m = xs.length - i ∧ xs.take i = ys.take i ∧ vs = [.imm t z 1 (xs.map intC), .imm t' z' 1 (ys.map intC), .v (.int .i64 xs.length), .v (.int .i64 i)] ∧ h = []) (And.intro ?_ ?_)))
    · refine Exists.intro xs.length ?_
      exact ⟨0, by omega, rfl, rfl, by rw [List.length_map]; rfl, rfl⟩
    · intro m vs h hI
      obtain ⟨i, hi, rfl, htk, rfl, rfl⟩ := hI
      refine And.intro (fun h1 => ?_) (fun h1 => ?_)
      · have h1 := of_decide_eq_true h1
        have hlt : i < xs.length := by omega
        obtain ⟨a, hai⟩ : ∃ a, xs[i]? = some a := ⟨_, List.getElem?_eq_getElem hlt⟩
        obtain ⟨b, hbi⟩ : ∃ b, ys[i]? = some b := ⟨_, List.getElem?_eq_getElem (by omega)⟩
        refine And.intro (show Region.lexB _ _ = true from by kernel_rfl) ?_
        refine Exists.intro i (And.intro rfl (Exists.intro (intC a) (And.intro (get_map hai) ?_)))
        refine Exists.intro i (And.intro rfl (Exists.intro (intC b) (And.intro (get_map hbi) ?_)))
        refine And.intro (fun h2 => ?_) (fun h2 => ?_)
        · exact hp2 (ne_at hai hbi (by simpa using h2))
        · have hab : a = b := by simpa using h2
          subst hab
          refine Exists.intro (xs.length - (i + 1)) (And.intro (by omega) ⟨i + 1, by omega, rfl, take_stepG htk hai hbi, ?_, rfl⟩)
          rw [wrap_succ hlt (by omega)]
      · have h1 := of_decide_eq_false h1
        exact hp1 (take_end htk hlen (by omega))
  · exact hp.elim
def cx_s_l5SameNums : Ctx := mkC []
theorem cx_s_l5SameNums_ok : CtxOk Tryz.prog cx_s_l5SameNums := cx0_ok
set_option maxRecDepth 100000 in
set_option pp.maxSteps 1500 in
theorem s_l5SameNums : HSound Tryz.prog 142 (callM [] true hEqNum) := by
  refine callM_sound cx_s_l5SameNums_ok mixed Tryz.func142 rfl fun args hl K hp => ?_
  unfold hEqNum at hp
  split at hp
  · rename_i t z l t' z' r
    obtain ⟨xs, ys, rfl, rfl, ha, hp1, hp2⟩ := hp
    refine And.intro (fun h1 => ?_) (fun h1 => ?_)
    · exact hp2 (by rintro rfl; simp at h1)
    have hlen : xs.length = ys.length := by simp at h1; omega
    clear h1
    refine Exists.intro false (Exists.intro [0, 1, 5] (Exists.intro (fun m vs h => ∃ i : Nat, i ≤ xs.length ∧ m = xs.length - i ∧ xs.take i = ys.take i ∧ vs = [.imm t z 1 (xs.map intC), .imm t' z' 1 (ys.map intC), .v (.int .i64 i)] ∧ h = []) (And.intro ?_ ?_)))
    · refine Exists.intro xs.length ?_
      exact ⟨0, by omega, rfl, rfl, rfl, rfl⟩
    · intro m vs h hI
      obtain ⟨i, hi, rfl, htk, rfl, rfl⟩ := hI
      refine And.intro (fun h1 => ?_) (fun h1 => ?_)
      · have h1 := of_decide_eq_true h1
        rw [List.length_map] at h1
        have hlt : i < xs.length := by omega
        obtain ⟨a, hai⟩ : ∃ a, xs[i]? = some a := ⟨_, List.getElem?_eq_getElem hlt⟩
        obtain ⟨b, hbi⟩ : ∃ b, ys[i]? = some b := ⟨_, List.getElem?_eq_getElem (by omega)⟩
        refine And.intro (show Region.lexB _ _ = true from by kernel_rfl) ?_
        refine Exists.intro i (And.intro rfl (Exists.intro (intC a) (And.intro (get_map hai) ?_)))
        refine Exists.intro i (And.intro rfl (Exists.intro (intC b) (And.intro (get_map hbi) ?_)))
        refine And.intro (fun h2 => ?_) (fun h2 => ?_)
        · exact hp2 (ne_at hai hbi (by simpa using h2))
        · have hab : a = b := by simpa using h2
          subst hab
          refine Exists.intro (xs.length - (i + 1)) (And.intro (by omega) ⟨i + 1, by omega, rfl, take_stepG htk hai hbi, ?_, rfl⟩)
          rw [wrap_succ hlt (by omega)]
      · have h1 := of_decide_eq_false h1
        rw [List.length_map] at h1
        exact hp1 (take_end htk hlen (by omega))
  · exact hp.elim
def hEqTgs : CH := fun args hl K => match args, hl with
  | [.imm _ _ 3 l, .imm _ _ 3 r], [] => ∃ xs ys : List Tg, l = xs.map tgC ∧ r = ys.map tgC ∧ xs.length ≤ 1048576 ∧ (xs = ys → K (.v (.bool true)) []) ∧ (xs ≠ ys → K (.v (.bool false)) [])
  | _, _ => False
def cx_s_EqualTg : Ctx := mkC []
theorem cx_s_EqualTg_ok : CtxOk Tryz.prog cx_s_EqualTg := cx0_ok
set_option maxRecDepth 100000 in
set_option pp.maxSteps 1500 in
theorem s_EqualTg : HSound Tryz.prog 153 (callM [] true hEqTgs) := by
  refine callM_sound cx_s_EqualTg_ok mixed Tryz.func153 rfl fun args hl K hp => ?_
  unfold hEqTgs at hp
  split at hp
  · rename_i t z l t' z' r
    obtain ⟨xs, ys, rfl, rfl, ha, hp1, hp2⟩ := hp
    refine And.intro (fun h1 => ?_) (fun h1 => ?_)
    · exact hp2 (by rintro rfl; simp at h1)
    have hlen : xs.length = ys.length := by simp at h1; omega
    clear h1
    refine Exists.intro false (Exists.intro [0, 1, 12, 13] (Exists.intro (fun m vs h => ∃ i : Nat, i ≤ xs.length ∧ m = xs.length - i ∧ xs.take i = ys.take i ∧ vs = [.imm t z 3 (xs.map tgC), .imm t' z' 3 (ys.map tgC), .v (.int .i64 xs.length), .v (.int .i64 i)] ∧ h = []) (And.intro ?_ ?_)))
    · refine Exists.intro xs.length ?_
      exact ⟨0, by omega, rfl, rfl, by rw [List.length_map]; rfl, rfl⟩
    · intro m vs h hI
      obtain ⟨i, hi, rfl, htk, rfl, rfl⟩ := hI
      refine And.intro (fun h1 => ?_) (fun h1 => ?_)
      · have h1 := of_decide_eq_true h1
        have hlt : i < xs.length := by omega
        obtain ⟨a, hai⟩ : ∃ a, xs[i]? = some a := ⟨_, List.getElem?_eq_getElem hlt⟩
        obtain ⟨b, hbi⟩ : ∃ b, ys[i]? = some b := ⟨_, List.getElem?_eq_getElem (by omega)⟩
        refine And.intro (show Region.lexB _ _ = true from by kernel_rfl) ?_
        refine Exists.intro i (And.intro rfl (Exists.intro (tgC a) (And.intro (get_map hai) ?_)))
        refine Exists.intro i (And.intro rfl (Exists.intro (tgC b) (And.intro (get_map hbi) ?_)))
        refine And.intro (fun h2 => ?_) (fun h2 => ?_)
        · refine hp2 (ne_at hai hbi ?_)
          rintro rfl
          simp at h2
        · have hab : a = b := by
            cases a
            cases b
            simpa using h2
          subst hab
          refine Exists.intro (xs.length - (i + 1)) (And.intro (by omega) ⟨i + 1, by omega, rfl, take_stepG htk hai hbi, ?_, rfl⟩)
          rw [wrap_succ hlt (by omega)]
      · have h1 := of_decide_eq_false h1
        exact hp1 (take_end htk hlen (by omega))
  · exact hp.elim
def hSamePl : CH := fun args hl K => match args, hl with
  | [a, b], [] => ∃ p q : Pl, PlV a p ∧ PlV b q ∧ p.banks.length ≤ 1048576 ∧ (p = q → K (.v (.bool true)) []) ∧ (p ≠ q → K (.v (.bool false)) [])
  | _, _ => False
def cx_s_equal1 : Ctx := mkC [(150, callM [] true hEqNum)]
theorem cx_s_equal1_ok : CtxOk Tryz.prog cx_s_equal1 := mkC_ok (mem1 ⟨s_EqualInt, fnOk Tryz.func150 rfl rfl⟩ mem0)
set_option maxRecDepth 100000 in
set_option pp.maxSteps 1500 in
theorem s_equal1 : HSound Tryz.prog 149 (callM [] true hSamePl) := by
  refine callM_sound cx_s_equal1_ok mixed Tryz.func149 rfl fun args hl K hp => ?_
  unfold hSamePl at hp
  split at hp
  · rename_i a b
    obtain ⟨p, q, ⟨b1, z1, rfl⟩, ⟨b2, z2, rfl⟩, hl, hp1, hp2⟩ := hp
    obtain ⟨t, bk, d, s⟩ := p
    obtain ⟨t', bk', d', s'⟩ := q
    simp only at *
    repeat' ((first
      | refine Exists.intro bk (Exists.intro bk' (And.intro rfl (And.intro rfl (And.intro hl (And.intro (fun h1 => ?_) (fun h1 => ?_))))))
      | refine And.intro (fun h1 => ?_) (fun h1 => ?_)
      | fail) <;> try cases h1)
    all_goals first
      | (refine hp1 ?_; simp_all; done)
      | (refine hp2 ?_; simp_all; done)
  · exact hp.elim
def hEqPls : CH := fun args hl K => match args, hl with
  | [.imm _ _ 4 l, .imm _ _ 4 r, .fn f []], [] => f = 149 ∧ ∃ xs ys : List Pl, l = xs.map plC ∧ r = ys.map plC ∧ xs.length ≤ 1048576 ∧ (∀ p ∈ xs, smPl p) ∧ (xs = ys → K (.v (.bool true)) []) ∧ (xs ≠ ys → K (.v (.bool false)) [])
  | _, _ => False
def cx_s_EqualPls : Ctx := mkC [(149, callM [] true hSamePl)]
theorem cx_s_EqualPls_ok : CtxOk Tryz.prog cx_s_EqualPls := mkC_ok (mem1 ⟨s_equal1, fnOk Tryz.func149 rfl rfl⟩ mem0)
set_option maxRecDepth 100000 in
set_option pp.maxSteps 1500 in
theorem s_EqualPls : HSound Tryz.prog 151 (callM [] true hEqPls) := by
  refine callM_sound cx_s_EqualPls_ok mixed Tryz.func151 rfl fun args hl K hp => ?_
  unfold hEqPls at hp
  split at hp
  · rename_i t z l t' z' r f
    obtain ⟨rfl, xs, ys, rfl, rfl, ha, hsm, hp1, hp2⟩ := hp
    refine And.intro (fun h1 => ?_) (fun h1 => ?_)
    · exact hp2 (by rintro rfl; simp at h1)
    have hlen : xs.length = ys.length := by simp at h1; omega
    clear h1
    refine Exists.intro true (Exists.intro [0, 1, 2, 15, 16, 17] (Exists.intro (fun m vs h => ∃ i : Nat, i ≤ xs.length ∧ m = xs.length - i ∧ xs.take i = ys.take i ∧ vs = [.imm t z 4 (xs.map plC), .imm t' z' 4 (ys.map plC), .fn 149 [], .imm t z 4 (xs.map plC), .v (.int .i64 xs.length), .v (.int .i64 i)] ∧ h = []) (And.intro ?_ ?_)))
    · refine Exists.intro [] (Exists.intro xs.length ?_)
      exact ⟨0, by omega, rfl, rfl, by rw [List.length_map]; rfl, rfl⟩
    · intro m vs h hI
      obtain ⟨i, hi, rfl, htk, rfl, rfl⟩ := hI
      refine And.intro (fun h1 => ?_) (fun h1 => ?_)
      · have h1 := of_decide_eq_true h1
        have hlt : i < xs.length := by omega
        obtain ⟨a, hai⟩ : ∃ a, xs[i]? = some a := ⟨_, List.getElem?_eq_getElem hlt⟩
        obtain ⟨b, hbi⟩ : ∃ b, ys[i]? = some b := ⟨_, List.getElem?_eq_getElem (by omega)⟩
        refine Exists.intro i (And.intro rfl (Exists.intro (plC a) (And.intro (get_map hai) ?_)))
        refine Exists.intro i (And.intro rfl (Exists.intro (plC b) (And.intro (get_map hbi) ?_)))
        refine Exists.intro a (Exists.intro b (And.intro ⟨_, _, rfl⟩ (And.intro ⟨_, _, rfl⟩ (And.intro (hsm a (List.mem_of_getElem? hai)) (And.intro (fun h2 => ?_) (fun h2 => ?_))))))
        · refine And.intro (fun h3 => by cases h3) (fun h3 => ?_)
          subst h2
          refine Exists.intro [] (Exists.intro (xs.length - (i + 1)) (And.intro (by omega) ⟨i + 1, by omega, rfl, take_stepG htk hai hbi, ?_, rfl⟩))
          rw [wrap_succ hlt (by omega)]
        · refine And.intro (fun h3 => ?_) (fun h3 => by cases h3)
          exact hp2 (ne_at hai hbi h2)
      · have h1 := of_decide_eq_false h1
        exact hp1 (take_end htk hlen (by omega))
  · exact hp.elim
def hEqTSS : CH := fun args hl K => match args, hl with
  | [.imm _ _ 1 l, .imm _ _ 1 r, .fn f []], [] => f = 153 ∧ ∃ xs ys : List (List Tg), l = xs.map tgsC ∧ r = ys.map tgsC ∧ xs.length ≤ 1048576 ∧ (∀ p ∈ xs, smTgs p) ∧ (xs = ys → K (.v (.bool true)) []) ∧ (xs ≠ ys → K (.v (.bool false)) [])
  | _, _ => False
def cx_s_EqualTSS : Ctx := mkC [(153, callM [] true hEqTgs)]
theorem cx_s_EqualTSS_ok : CtxOk Tryz.prog cx_s_EqualTSS := mkC_ok (mem1 ⟨s_EqualTg, fnOk Tryz.func153 rfl rfl⟩ mem0)
set_option maxRecDepth 100000 in
set_option pp.maxSteps 1500 in
theorem s_EqualTSS : HSound Tryz.prog 152 (callM [] true hEqTSS) := by
  refine callM_sound cx_s_EqualTSS_ok mixed Tryz.func152 rfl fun args hl K hp => ?_
  unfold hEqTSS at hp
  split at hp
  · rename_i t z l t' z' r f
    obtain ⟨rfl, xs, ys, rfl, rfl, ha, hsm, hp1, hp2⟩ := hp
    refine And.intro (fun h1 => ?_) (fun h1 => ?_)
    · exact hp2 (by rintro rfl; simp at h1)
    have hlen : xs.length = ys.length := by simp at h1; omega
    clear h1
    refine Exists.intro true (Exists.intro [0, 1, 2, 15, 16, 17] (Exists.intro (fun m vs h => ∃ i : Nat, i ≤ xs.length ∧ m = xs.length - i ∧ xs.take i = ys.take i ∧ vs = [.imm t z 1 (xs.map tgsC), .imm t' z' 1 (ys.map tgsC), .fn 153 [], .imm t z 1 (xs.map tgsC), .v (.int .i64 xs.length), .v (.int .i64 i)] ∧ h = []) (And.intro ?_ ?_)))
    · refine Exists.intro [] (Exists.intro xs.length ?_)
      exact ⟨0, by omega, rfl, rfl, by rw [List.length_map]; rfl, rfl⟩
    · intro m vs h hI
      obtain ⟨i, hi, rfl, htk, rfl, rfl⟩ := hI
      refine And.intro (fun h1 => ?_) (fun h1 => ?_)
      · have h1 := of_decide_eq_true h1
        have hlt : i < xs.length := by omega
        obtain ⟨a, hai⟩ : ∃ a, xs[i]? = some a := ⟨_, List.getElem?_eq_getElem hlt⟩
        obtain ⟨b, hbi⟩ : ∃ b, ys[i]? = some b := ⟨_, List.getElem?_eq_getElem (by omega)⟩
        refine Exists.intro i (And.intro rfl (Exists.intro (tgsC a) (And.intro (get_map hai) ?_)))
        refine Exists.intro i (And.intro rfl (Exists.intro (tgsC b) (And.intro (get_map hbi) ?_)))
        refine Exists.intro a (Exists.intro b (And.intro rfl (And.intro rfl (And.intro (hsm a (List.mem_of_getElem? hai)) (And.intro (fun h2 => ?_) (fun h2 => ?_))))))
        · refine And.intro (fun h3 => by cases h3) (fun h3 => ?_)
          subst h2
          refine Exists.intro [] (Exists.intro (xs.length - (i + 1)) (And.intro (by omega) ⟨i + 1, by omega, rfl, take_stepG htk hai hbi, ?_, rfl⟩))
          rw [wrap_succ hlt (by omega)]
        · refine And.intro (fun h3 => ?_) (fun h3 => by cases h3)
          exact hp2 (ne_at hai hbi h2)
      · have h1 := of_decide_eq_false h1
        exact hp1 (take_end htk hlen (by omega))
  · exact hp.elim
def hSameLa : CH := fun args hl K => match args, hl with
  | [a, b], [] => ∃ l k : La, LaV a l ∧ LaV b k ∧ smLa l ∧ (l = k → K (.v (.bool true)) []) ∧ (l ≠ k → K (.v (.bool false)) [])
  | _, _ => False
def cx_s_equal : Ctx := mkC [(151, callM [] true hEqPls), (150, callM [] true hEqNum), (152, callM [] true hEqTSS), (149, callM [] true hSamePl)]
theorem cx_s_equal_ok : CtxOk Tryz.prog cx_s_equal := mkC_ok (mem1 ⟨s_EqualPls, fnOk Tryz.func151 rfl rfl⟩ (mem1 ⟨s_EqualInt, fnOk Tryz.func150 rfl rfl⟩ (mem1 ⟨s_EqualTSS, fnOk Tryz.func152 rfl rfl⟩ (mem1 ⟨s_equal1, fnOk Tryz.func149 rfl rfl⟩ mem0))))
set_option maxRecDepth 100000 in
set_option pp.maxSteps 1500 in
set_option maxHeartbeats 4000000 in
theorem s_equal : HSound Tryz.prog 103 (callM [] true hSameLa) := by
  refine callM_sound cx_s_equal_ok mixed Tryz.func103 rfl fun args hl K hp => ?_
  unfold hSameLa at hp
  split at hp
  · rename_i a b
    obtain ⟨l, k, ⟨b1, z1, b2, z2, b3, z3, rfl⟩, ⟨b1', z1', b2', z2', b3', z3', rfl⟩, hb, hp1, hp2⟩ := hp
    obtain ⟨g1, g2, _, g3, g4, g5, _⟩ := hb
    obtain ⟨l1, l2, l3, l4, l5, l6⟩ := l
    obtain ⟨k1, k2, k3, k4, k5, k6⟩ := k
    simp only at *
    repeat' ((first
      | refine And.intro rfl (Exists.intro l1 (Exists.intro k1 (And.intro rfl (And.intro rfl (And.intro g1 (And.intro g2 (And.intro (fun h1 => ?_) (fun h1 => ?_))))))))
      | refine Exists.intro l3 (Exists.intro k3 (And.intro rfl (And.intro rfl (And.intro g3 (And.intro (fun h1 => ?_) (fun h1 => ?_))))))
      | refine And.intro rfl (Exists.intro l6 (Exists.intro k6 (And.intro rfl (And.intro rfl (And.intro g4 (And.intro g5 (And.intro (fun h1 => ?_) (fun h1 => ?_))))))))
      | refine And.intro (fun h1 => ?_) (fun h1 => ?_)
      | fail) <;> try first | (cases h1; done) | (exfalso; simp at h1; done))
    all_goals first
      | (refine hp1 ?_; simp_all; done)
      | (refine hp2 ?_; simp_all; done)
  · exact hp.elim
end Go.Proofs.YtbfjkjdbdejnmaaGreat.Ab

/- Layouts compared by the reference, in both answers. No condition. -/
namespace Go.Proofs.YtbfjkjdbdejnmaaGreat.Ab
set_option linter.unusedVariables false
set_option linter.unusedSimpArgs false
set_option maxRecDepth 100000

def hSameP : CH := fun args hl K => match args, hl with
  | [a, b], [] => ∃ l k : La, LaV a l ∧ LaV b k ∧ smLa l ∧ ((l.pls = k.pls ∧ l.tgts = k.tgts) → K (.v (.bool true)) []) ∧ (¬ (l.pls = k.pls ∧ l.tgts = k.tgts) → K (.v (.bool false)) [])
  | _, _ => False
def cx_s_l5SamePlaces : Ctx := mkC [(142, callM [] true hEqNum)]
theorem cx_s_l5SamePlaces_ok : CtxOk Tryz.prog cx_s_l5SamePlaces := mkC_ok (mem1 ⟨s_l5SameNums, fnOk Tryz.func142 rfl rfl⟩ mem0)
set_option maxRecDepth 100000 in
set_option pp.maxSteps 1500 in
set_option maxHeartbeats 8000000 in
theorem s_l5SamePlaces : HSound Tryz.prog 141 (callM [] true hSameP) := by
  refine callM_sound cx_s_l5SamePlaces_ok mixed Tryz.func141 rfl fun args hl K hp => ?_
  unfold hSameP at hp
  split at hp
  · rename_i a b
    obtain ⟨l, k, ⟨b1, z1, b2, z2, b3, z3, rfl⟩, ⟨b1', z1', b2', z2', b3', z3', rfl⟩, hb, hp1, hp2⟩ := hp
    obtain ⟨g1, g2, _, g3, g4, g5, _⟩ := hb
    obtain ⟨l1, l2, l3, l4, l5, l6⟩ := l
    obtain ⟨k1, k2, k3, k4, k5, k6⟩ := k
    simp only at *
    repeat' ((first
      | refine And.intro (fun h1 => ?_) (fun h1 => ?_)
      | fail) <;> try cases h1)
    · exact hp2 (by rintro ⟨rfl, rfl⟩; simp at h1)
    · exact hp2 (by rintro ⟨rfl, rfl⟩; simp at h1)
    rename_i h0
    have e1 : l1.length = k1.length := by simp at h0; omega
    have e6 : l6.length = k6.length := by simp at h1; omega
    clear h0 h1
    refine Exists.intro true (Exists.intro [2, 3, 5] (Exists.intro (fun m vs h => ∃ i : Nat, i ≤ l1.length ∧ m = l1.length - i ∧ l1.take i = k1.take i ∧ vs = [.ptr 0 0 0 6, .ptr 1 0 0 6, .v (.int .i64 i)] ∧
      h = [.box [.imm b1 z1 4 (l1.map plC), .v (.int .i64 l2), .imm b2 z2 1 (l3.map intC), .v (.int .i64 l4), .v (.int .i64 l5), .imm b3 z3 1 (l6.map tgsC)], .box [.imm b1' z1' 4 (k1.map plC), .v (.int .i64 k2), .imm b2' z2' 1 (k3.map intC), .v (.int .i64 k4), .v (.int .i64 k5), .imm b3' z3' 1 (k6.map tgsC)]]) (And.intro ?_ ?_)))
    · refine Exists.intro [] (Exists.intro l1.length ?_)
      exact ⟨0, by omega, rfl, rfl, rfl, rfl⟩
    intro m vs h hI
    obtain ⟨i, hi, rfl, htk, rfl, rfl⟩ := hI
    refine And.intro (fun h1 => ?_) (fun h1 => ?_)
    · have h1 := of_decide_eq_true h1
      rw [List.length_map] at h1
      have hlt : i < l1.length := by omega
      obtain ⟨p, hpi⟩ : ∃ p, l1[i]? = some p := ⟨_, List.getElem?_eq_getElem hlt⟩
      obtain ⟨q, hqi⟩ : ∃ q, k1[i]? = some q := ⟨_, List.getElem?_eq_getElem (by omega)⟩
      have hps := g2 p (List.mem_of_getElem? hpi)
      have hwi : IntKind.wrap .i64 ((i : Int) + 1) = ((i + 1 : Nat) : Int) := wrap_succ hlt (by omega)
      have hne : p ≠ q → K (.v (.bool false)) [] := fun h => hp2 fun e => ne_at hpi hqi h e.1
      refine Exists.intro i (And.intro rfl (Exists.intro (plC p) (And.intro (get_map hpi) ?_)))
      refine Exists.intro i (And.intro rfl (Exists.intro (plC q) (And.intro (get_map hqi) ?_)))
      have hfin : p = q → l1.take (i + 1) = k1.take (i + 1) := fun h => take_stepG htk hpi (h ▸ hqi)
      obtain ⟨pt, pb, pd, ps⟩ := p
      obtain ⟨qt, qb, qd, qs⟩ := q
      simp only at *
      repeat' ((first
        | refine Exists.intro pb (Exists.intro qb (And.intro rfl (And.intro rfl (And.intro hps (And.intro (fun h1 => ?_) (fun h1 => ?_))))))
        | refine And.intro (fun h1 => ?_) (fun h1 => ?_)
        | fail) <;> try first | (cases h1; done) | (exfalso; simp at h1; done))
      all_goals first
        | (refine hne ?_; simp_all; done)
        | (refine Exists.intro [] (Exists.intro (l1.length - (i + 1)) (And.intro (by omega) ⟨i + 1, by omega, rfl, hfin (by simp_all; done), by rw [hwi], rfl⟩)))
    have h1 := of_decide_eq_false h1
    rw [List.length_map] at h1
    have e1' : l1 = k1 := take_end htk e1 (by omega)
    subst e1'
    clear htk
    have hne : l6 ≠ k6 → K (.v (.bool false)) [] := fun h => hp2 fun e => h e.2
    have heq : l6 = k6 → K (.v (.bool true)) [] := fun h => hp1 ⟨rfl, h⟩
    refine Exists.intro true (Exists.intro [2, 3, 8] (Exists.intro (fun m vs h => ∃ i : Nat, i ≤ l6.length ∧ m = l6.length - i ∧ l6.take i = k6.take i ∧ vs = [.ptr 0 0 0 6, .ptr 1 0 0 6, .v (.int .i64 i)] ∧
      h = [.box [.imm b1 z1 4 (l1.map plC), .v (.int .i64 l2), .imm b2 z2 1 (l3.map intC), .v (.int .i64 l4), .v (.int .i64 l5), .imm b3 z3 1 (l6.map tgsC)], .box [.imm b1' z1' 4 (l1.map plC), .v (.int .i64 k2), .imm b2' z2' 1 (k3.map intC), .v (.int .i64 k4), .v (.int .i64 k5), .imm b3' z3' 1 (k6.map tgsC)]]) (And.intro ?_ ?_)))
    · refine Exists.intro [] (Exists.intro l6.length ?_)
      exact ⟨0, by omega, rfl, rfl, rfl, rfl⟩
    intro m vs h hI
    obtain ⟨i, hi, rfl, htk, rfl, rfl⟩ := hI
    refine And.intro (fun h1 => ?_) (fun h1 => ?_)
    · have h1 := of_decide_eq_true h1
      rw [List.length_map] at h1
      have hlt : i < l6.length := by omega
      obtain ⟨p, hpi⟩ : ∃ p, l6[i]? = some p := ⟨_, List.getElem?_eq_getElem hlt⟩
      obtain ⟨q, hqi⟩ : ∃ q, k6[i]? = some q := ⟨_, List.getElem?_eq_getElem (by omega)⟩
      have hps := g5 p (List.mem_of_getElem? hpi)
      simp only [smTgs] at hps
      have hwi : IntKind.wrap .i64 ((i : Int) + 1) = ((i + 1 : Nat) : Int) := wrap_succ hlt (by omega)
      have hne2 : p ≠ q → K (.v (.bool false)) [] := fun h => hne fun e => ne_at hpi hqi h e
      refine And.intro (show Region.lexB _ _ = true from by kernel_rfl) ?_
      refine Exists.intro i (And.intro rfl (Exists.intro (tgsC p) (And.intro (get_map hpi) ?_)))
      refine Exists.intro i (And.intro rfl (Exists.intro (tgsC q) (And.intro (get_map hqi) ?_)))
      refine And.intro (fun h2 => ?_) (fun h2 => ?_)
      · exact hne2 (by rintro rfl; simp at h2)
      have el : p.length = q.length := by simp at h2; omega
      clear h2
      refine Exists.intro true (Exists.intro [2, 3, 8, 9] (Exists.intro (fun m vs h => ∃ j : Nat, j ≤ p.length ∧ m = p.length - j ∧ p.take j = q.take j ∧ vs = [.ptr 0 0 0 6, .ptr 1 0 0 6, .v (.int .i64 i), .v (.int .i64 j)] ∧
        h = [.box [.imm b1 z1 4 (l1.map plC), .v (.int .i64 l2), .imm b2 z2 1 (l3.map intC), .v (.int .i64 l4), .v (.int .i64 l5), .imm b3 z3 1 (l6.map tgsC)], .box [.imm b1' z1' 4 (l1.map plC), .v (.int .i64 k2), .imm b2' z2' 1 (k3.map intC), .v (.int .i64 k4), .v (.int .i64 k5), .imm b3' z3' 1 (k6.map tgsC)]]) (And.intro ?_ ?_)))
      · refine Exists.intro [] (Exists.intro p.length ?_)
        exact ⟨0, by omega, rfl, rfl, rfl, rfl⟩
      intro m vs h hI
      obtain ⟨j, hj, rfl, htj, rfl, rfl⟩ := hI
      refine Exists.intro i (And.intro rfl (Exists.intro (tgsC p) (And.intro (get_map hpi) ?_)))
      refine And.intro (fun h2 => ?_) (fun h2 => ?_)
      · have h2 := of_decide_eq_true h2
        rw [List.length_map] at h2
        have hjl : j < p.length := by omega
        obtain ⟨x, hx⟩ : ∃ x, p[j]? = some x := ⟨_, List.getElem?_eq_getElem hjl⟩
        obtain ⟨y, hy⟩ : ∃ y, q[j]? = some y := ⟨_, List.getElem?_eq_getElem (by omega)⟩
        refine And.intro (show Region.lexB _ _ = true from by kernel_rfl) ?_
        refine Exists.intro i (And.intro rfl (Exists.intro (tgsC p) (And.intro (get_map hpi) ?_)))
        refine Exists.intro j (And.intro rfl (Exists.intro (tgC x) (And.intro (get_map hx) ?_)))
        refine Exists.intro i (And.intro rfl (Exists.intro (tgsC q) (And.intro (get_map hqi) ?_)))
        refine Exists.intro j (And.intro rfl (Exists.intro (tgC y) (And.intro (get_map hy) ?_)))
        refine And.intro (fun h3 => ?_) (fun h3 => ?_)
        · refine hne2 (ne_at hx hy ?_)
          rintro rfl
          simp at h3
        · have hxy : x = y := by
            cases x
            cases y
            simpa using h3
          subst hxy
          refine Exists.intro [] (Exists.intro (p.length - (j + 1)) (And.intro (by omega) ⟨j + 1, by omega, rfl, take_stepG htj hx hy, ?_, rfl⟩))
          rw [wrap_succ hjl (by omega)]
      · have h2 := of_decide_eq_false h2
        rw [List.length_map] at h2
        have hpq : p = q := take_end htj el (by omega)
        subst hpq
        exact Exists.intro [] (Exists.intro (l6.length - (i + 1)) (And.intro (by omega) ⟨i + 1, by omega, rfl, take_stepG htk hpi hqi, by rw [hwi], rfl⟩))
    have h1 := of_decide_eq_false h1
    rw [List.length_map] at h1
    exact heq (take_end htk e6 (by omega))
  · exact hp.elim
def cx_s_SameLayout : Ctx := mkC [(141, callM [] true hSameP), (142, callM [] true hEqNum)]
theorem cx_s_SameLayout_ok : CtxOk Tryz.prog cx_s_SameLayout := mkC_ok (mem1 ⟨s_l5SamePlaces, fnOk Tryz.func141 rfl rfl⟩ (mem1 ⟨s_l5SameNums, fnOk Tryz.func142 rfl rfl⟩ mem0))
set_option maxRecDepth 100000 in
set_option pp.maxSteps 1500 in
set_option maxHeartbeats 4000000 in
theorem s_SameLayout : HSound Tryz.prog 90 (callM [] true hSameLa) := by
  refine callM_sound cx_s_SameLayout_ok mixed Tryz.func90 rfl fun args hl K hp => ?_
  unfold hSameLa at hp
  split at hp
  · rename_i a b
    obtain ⟨l, k, ⟨b1, z1, b2, z2, b3, z3, rfl⟩, ⟨b1', z1', b2', z2', b3', z3', rfl⟩, hb, hp1, hp2⟩ := hp
    have g3 := hb.slots
    refine Exists.intro l (Exists.intro k (And.intro ⟨_, _, _, _, _, _, rfl⟩ (And.intro ⟨_, _, _, _, _, _, rfl⟩ (And.intro hb (And.intro (fun h0 => ?_) (fun h0 => ?_))))))
    all_goals obtain ⟨l1, l2, l3, l4, l5, l6⟩ := l
    all_goals obtain ⟨k1, k2, k3, k4, k5, k6⟩ := k
    all_goals simp only at *
    all_goals repeat' ((first
      | refine Exists.intro l3 (Exists.intro k3 (And.intro rfl (And.intro rfl (And.intro g3 (And.intro (fun h1 => ?_) (fun h1 => ?_))))))
      | refine And.intro (fun h1 => ?_) (fun h1 => ?_)
      | fail) <;> try first | (cases h1; done) | (exfalso; simp at h1; done))
    all_goals first
      | (refine hp1 ?_; simp_all; done)
      | (refine hp2 ?_; simp_all; done)
      | (by_cases hq : l5 = k5
         · exact fin_b (hp1 (by simp_all)) (by simp [hq])
         · exact fin_b (hp2 (by simp_all)) (by simp [hq]))
  · exact hp.elim
def hEnds : CH := fun args hl K => match args, hl with
  | [a], [] => ∃ l : La, LaV a l ∧ K (.v (.int .i64 (endsF l))) []
  | _, _ => False
def cx_s_stackEnd : Ctx := mkC []
theorem cx_s_stackEnd_ok : CtxOk Tryz.prog cx_s_stackEnd := cx0_ok
set_option maxRecDepth 100000 in
set_option pp.maxSteps 1500 in
theorem s_stackEnd : HSound Tryz.prog 101 (callM [] true hEnds) := by
  refine callM_sound cx_s_stackEnd_ok mixed Tryz.func101 rfl fun args hl K hp => ?_
  unfold hEnds at hp
  split at hp
  · rename_i a
    obtain ⟨l, ⟨b1, z1, b2, z2, b3, z3, rfl⟩, hp⟩ := hp
    obtain ⟨l1, l2, l3, l4, l5, l6⟩ := l
    cases l3 with
    | nil =>
      refine And.intro (fun h1 => by exfalso; simp at h1) (fun h1 => ?_)
      exact hp
    | cons s t =>
      refine And.intro (fun h1 => ?_) (fun h1 => by exfalso; first | (simp at h1; done) | (simp at h1; omega))
      refine Exists.intro 0 (And.intro rfl (Exists.intro (intC s) (And.intro rfl ?_)))
      exact hp
  · exact hp.elim
def cx_s_l5Ends : Ctx := mkC []
theorem cx_s_l5Ends_ok : CtxOk Tryz.prog cx_s_l5Ends := cx0_ok
set_option maxRecDepth 100000 in
set_option pp.maxSteps 1500 in
theorem s_l5Ends : HSound Tryz.prog 88 (callM [] true hEnds) := by
  refine callM_sound cx_s_l5Ends_ok mixed Tryz.func88 rfl fun args hl K hp => ?_
  unfold hEnds at hp
  split at hp
  · rename_i a
    obtain ⟨l, ⟨b1, z1, b2, z2, b3, z3, rfl⟩, hp⟩ := hp
    obtain ⟨l1, l2, l3, l4, l5, l6⟩ := l
    cases l3 with
    | nil =>
      refine And.intro (fun h1 => by exfalso; simp at h1) (fun h1 => ?_)
      exact hp
    | cons s t =>
      refine And.intro (fun h1 => ?_) (fun h1 => by exfalso; first | (simp at h1; done) | (simp at h1; omega))
      refine Exists.intro 0 (And.intro rfl (Exists.intro (intC s) (And.intro rfl ?_)))
      exact hp
  · exact hp.elim
end Go.Proofs.YtbfjkjdbdejnmaaGreat.Ab

/- What a law's arguments are: lists of regions. No condition. -/
namespace Go.Proofs.YtbfjkjdbdejnmaaGreat.Ab
set_option maxRecDepth 100000

theorem list_of {R : Type} {C : R → List AV} {S : List AV → Prop} {Q : R → Prop} (h : ∀ el, S el → ∃ r, el = C r ∧ Q r) : ∀ ll : List (List AV), (∀ el ∈ ll, S el) → ∃ rs : List R, ll = rs.map C ∧ ∀ r ∈ rs, Q r
  | [], _ => ⟨[], rfl, fun _ h => by cases h⟩
  | el :: ll, hs => by
    obtain ⟨rs, rfl, hq⟩ := list_of h ll fun e he => hs e (List.mem_cons_of_mem _ he)
    obtain ⟨r, rfl, h1⟩ := h el (hs el List.mem_cons_self)
    refine ⟨r :: rs, rfl, fun q hq' => ?_⟩
    rcases List.mem_cons.1 hq' with rfl | h2
    · exact h1
    · exact hq q h2
theorem sh_int {n : Nat} {c : List AV} (hs : Sh Tryz.prog (n + 1) 3 c) : ∃ a, c = [.v (.int .i64 a)] ∧ I64 a := by
  simp only [Sh, Tryz.underlying3] at hs
  obtain ⟨w, rfl, hw⟩ := hs
  exact ⟨w, rfl, wf_i64 hw⟩
theorem sh_bool {n : Nat} {c : List AV} (hs : Sh Tryz.prog (n + 1) 4 c) : ∃ a, c = [.v (.bool a)] := by
  simp only [Sh, Tryz.underlying4] at hs
  exact hs
theorem lendC {R : Type} (C : R → List AV) (bs : List R) : List.take bs.length (List.drop 0 (bs.map C)) = bs.map C := by rw [List.drop_zero, ← List.length_map (f := C), List.take_length]
end Go.Proofs.YtbfjkjdbdejnmaaGreat.Ab

/- What a law's arguments are: modules. No condition. -/
namespace Go.Proofs.YtbfjkjdbdejnmaaGreat.Ab
set_option maxRecDepth 100000

theorem list_sh {β : Type} {C : β → List AV} {Q : β → Prop} {S : List AV → Prop} (h : ∀ el, S el → ∃ b, el = C b ∧ Q b) : ∀ (ll : List (List AV)), (∀ el ∈ ll, S el) → ∃ bs : List β, ll = bs.map C ∧ ∀ b ∈ bs, Q b
  | [], _ => ⟨[], rfl, fun _ h => by cases h⟩
  | el :: ll, hl => by
    obtain ⟨bs, rfl, hb⟩ := list_sh h ll fun e he => hl e (List.mem_cons_of_mem _ he)
    obtain ⟨b, rfl, hq⟩ := h el (hl _ List.mem_cons_self)
    refine ⟨b :: bs, rfl, fun x hx => ?_⟩
    rcases List.mem_cons.1 hx with rfl | hx
    · exact hq
    · exact hb x hx
theorem sh_slice {n : Nat} {t e : TypeId} {k : Nat} {β : Type} {C : β → List AV} {Q : β → Prop} {c : List AV} (ht : Tryz.prog.underlying t = some (.slice e)) (hk : Tryz.prog.cellsOf e = k) (h : ∀ el, Sh Tryz.prog n e el → ∃ b, el = C b ∧ Q b)
    (hs : Sh Tryz.prog (n + 1) t c) : ∃ bs : List β, c = [.sl k (bs.map C)] ∧ (∀ b ∈ bs, Q b) ∧ bs.length ≤ maxLen := by
  unfold Sh at hs
  simp only [ht, hk] at hs
  obtain ⟨l1, rfl, t1, _, m1⟩ := hs
  obtain ⟨bs, rfl, hb⟩ := list_sh h l1 t1
  exact ⟨bs, rfl, hb, by simpa using m1⟩
theorem sh_intC {n : Nat} (el : List AV) (hs : Sh Tryz.prog (n + 1) 3 el) : ∃ a, el = intC a ∧ I64 a := by
  simp only [Sh, Tryz.underlying3] at hs
  obtain ⟨w, rfl, hw⟩ := hs
  exact ⟨w, rfl, wf_i64 hw⟩
theorem sh_str {n : Nat} (el : List AV) (hs : Sh Tryz.prog (n + 1) 9 el) : ∃ s, el = strC s ∧ bigStr s := by
  simp only [Sh, Tryz.underlying9] at hs
  obtain ⟨w, rfl, hw⟩ := hs
  exact ⟨w, rfl, hw⟩
theorem sh_intS {n : Nat} (el : List AV) (hs : Sh Tryz.prog (n + 2) 24 el) : ∃ b, el = bankC b ∧ (∀ x ∈ b, I64 x) ∧ bigBank b := by
  obtain ⟨bs, rfl, h1, h2⟩ := sh_slice Tryz.underlying24 (show Tryz.prog.cellsOf 3 = 1 by kernel_rfl) sh_intC hs
  exact ⟨bs, rfl, h1, h2⟩
theorem sh_ex {n : Nat} (el : List AV) (hs : Sh Tryz.prog (n + 2) 207 el) : ∃ e, el = exC e ∧ bigEx e ∧ I64 e.bank ∧ I64 e.pos := by
  unfold Sh at hs
  simp only [Tryz.underlying207] at hs
  obtain ⟨_, _, rfl, s1, _, _, rfl, s2, _, _, rfl, s3, rfl⟩ := hs
  obtain ⟨a, rfl, ha⟩ := sh_str _ s1
  obtain ⟨b, rfl, hb⟩ := sh_intC _ s2
  obtain ⟨c, rfl, hc⟩ := sh_intC _ s3
  exact ⟨⟨a, b, c⟩, rfl, ha, hb, hc⟩
structure OkMo (m : Mo) : Prop where
  big : bigMo m
  text : ∀ x ∈ m.text, I64 x
  banks : ∀ b ∈ m.banks, ∀ x ∈ b, I64 x
  data : BytesOk m.data
  bss : I64 m.bss
  rels : ∀ x ∈ m.rels, I64 x
  exps : ∀ e ∈ m.exps, I64 e.bank ∧ I64 e.pos
theorem sh_mo {n : Nat} (el : List AV) (hs : Sh Tryz.prog (n + 4) 85 el) : ∃ m, el = moC m ∧ OkMo m := by
  unfold Sh at hs
  simp only [Tryz.underlying85] at hs
  obtain ⟨_, _, rfl, s1, _, _, rfl, s2, _, _, rfl, s3, _, _, rfl, s4, _, _, rfl, s5, _, _, rfl, s6, _, _, rfl, s7, _, _, rfl, s8, rfl⟩ := hs
  obtain ⟨a1, rfl, h1⟩ := sh_str _ s1
  obtain ⟨a2, rfl, h2, g2⟩ := sh_intS _ s2
  obtain ⟨a3, rfl, h3, g3⟩ := sh_slice Tryz.underlying81 (show Tryz.prog.cellsOf 24 = 1 by kernel_rfl) sh_intS s3
  obtain ⟨a4, rfl, h4, g4⟩ := sh_byteS Tryz.underlying41 s4
  obtain ⟨a5, rfl, h5⟩ := sh_intC _ s5
  obtain ⟨a6, rfl, h6, g6⟩ := sh_intS _ s6
  obtain ⟨a7, rfl, h7, g7⟩ := sh_slice Tryz.underlying82 (show Tryz.prog.cellsOf 9 = 1 by kernel_rfl) sh_str s7
  obtain ⟨a8, rfl, h8, g8⟩ := sh_slice Tryz.underlying83 (show Tryz.prog.cellsOf 207 = 3 by kernel_rfl) sh_ex s8
  exact ⟨⟨a1, a2, a3, a4, a5, a6, a7, a8⟩, rfl, ⟨h1, g2, g3, fun b hb => (h3 b hb).2, g4, g6, g7, h7, g8, fun e he => (h8 e he).1⟩, h2, fun b hb => (h3 b hb).1, h4, h5, h6, fun e he => (h8 e he).2⟩
theorem arg_mo {n : Nat} {c : List AV} {x : AV} (hs : Sh Tryz.prog (n + 4) 85 c) (ha : ArgOf Tryz.prog 85 c x) : ∃ m, MoV x m ∧ OkMo m := by
  simp only [ArgOf, Tryz.underlying85] at ha
  obtain ⟨m, rfl, hm⟩ := sh_mo _ hs
  exact ⟨m, ⟨_, _, _, _, _, _, _, _, _, _, _, _, ha⟩, hm⟩
theorem arg_moS {n : Nat} {c : List AV} {x : AV} (hs : Sh Tryz.prog (n + 5) 22 c) (ha : ArgOf Tryz.prog 22 c x) : ∃ ms : List Mo, x = .imm false false 8 (ms.map moC) ∧ (∀ m ∈ ms, OkMo m) ∧ ms.length ≤ maxLen := by
  obtain ⟨ms, rfl, h1, h2⟩ := sh_slice Tryz.underlying22 (show Tryz.prog.cellsOf 85 = 8 by kernel_rfl) sh_mo hs
  simp only [ArgOf, Tryz.underlying22] at ha
  obtain ⟨a, ha, rfl⟩ := ha
  cases ha
  exact ⟨ms, rfl, h1, h2⟩
theorem arg_str {n : Nat} {c : List AV} {x : AV} (hs : Sh Tryz.prog (n + 1) 9 c) (ha : ArgOf Tryz.prog 9 c x) : ∃ s, x = .v (.string s) ∧ bigStr s := by
  obtain ⟨s, rfl, h1⟩ := sh_str _ hs
  simp only [ArgOf, Tryz.underlying9] at ha
  obtain ⟨a, ha, rfl⟩ := ha
  cases ha
  exact ⟨s, rfl, h1⟩
end Go.Proofs.YtbfjkjdbdejnmaaGreat.Ab

/- Link: the law. No condition. -/
namespace Go.Proofs.YtbfjkjdbdejnmaaGreat.Ab
set_option linter.unusedVariables false
set_option linter.unusedSimpArgs false
set_option maxRecDepth 100000

def hToCfg : CH := fun args hl K => match args, hl with
  | [.agg [.v (.int .i64 a), .v (.int .i64 b), .v (.int .i64 c), .v (.int .i64 d)]], [] => K (.agg [.v (.int .i64 a), .v (.int .i64 b), .v (.int .i64 c), .v (.int .i64 d)]) []
  | _, _ => False
def cx_s_toConfig : Ctx := mkC []
theorem cx_s_toConfig_ok : CtxOk Tryz.prog cx_s_toConfig := cx0_ok
set_option maxRecDepth 100000 in
set_option pp.maxSteps 1500 in
theorem s_toConfig : HSound Tryz.prog 72 (callM [] false hToCfg) := by
  refine callM_sound cx_s_toConfig_ok mixed Tryz.func72 rfl fun args hl K hp => ?_
  unfold hToCfg at hp
  split at hp
  · exact hp
  · exact hp.elim
theorem arg_cfg {n : Nat} {c : List AV} {x : AV} (hs : Sh Tryz.prog (n + 2) 61 c) (ha : ArgOf Tryz.prog 61 c x) : ∃ a b d e : Int, x = .agg [.v (.int .i64 a), .v (.int .i64 b), .v (.int .i64 d), .v (.int .i64 e)] := by
  simp only [ArgOf, Tryz.underlying61] at ha
  unfold Sh at hs
  simp only [Tryz.underlying61] at hs
  obtain ⟨_, _, rfl, s1, _, _, rfl, s2, _, _, rfl, s3, _, _, rfl, s4, rfl⟩ := hs
  obtain ⟨a, rfl, _⟩ := sh_intC _ s1
  obtain ⟨b, rfl, _⟩ := sh_intC _ s2
  obtain ⟨d, rfl, _⟩ := sh_intC _ s3
  obtain ⟨e, rfl, _⟩ := sh_intC _ s4
  exact ⟨a, b, d, e, ha⟩
theorem sum_bd {α : Type} {w : α → Nat} {n : Nat} : ∀ {l : List α}, (∀ a ∈ l, w a ≤ n) → (l.map w).sum ≤ n * l.length
  | [], _ => by simp
  | a :: l, h => by
    have h1 := h a List.mem_cons_self
    have h2 := sum_bd (l := l) fun b hb => h b (List.mem_cons_of_mem _ hb)
    simp only [List.map_cons, List.sum_cons, List.length_cons, Nat.mul_add]
    omega
theorem plP_bk {ms : List Mo} (hg : ∀ m ∈ ms, GoodM m) (i : Nat) : ∀ p ∈ (plP ms i).1, p.banks.length ≤ 4 := by
  induction i with
  | zero => intro p hp; simp [plP] at hp
  | succ i ih =>
    unfold plP
    split
    · rename_i m h
      intro p hp
      rcases List.mem_append.1 hp with h1 | h1
      · exact ih p h1
      · simp at h1
        subst h1
        have := (hg m (List.mem_of_getElem? h)).bl
        show (bkP m.banks _ m.banks.length).1.length ≤ 4
        rw [bkP_len _ _ (Nat.le_refl _)]
        exact this
    · exact ih
theorem tgs_bd {ms : List Mo} {m : Mo} (g : GoodM m) : (tgsOf ms m.imps).length ≤ 16 := by
  have := List.length_filterMap_le (fun s => (resolveF ms s).map tgOf) m.imps
  have := g.il
  simp only [tgsOf]
  omega
theorem link_sound {ms : List Mo} {c : Cf} (h : linkC ms c = 0) : soundF ms c = 0 := by
  unfold linkC at h
  split at h
  · omega
  · omega
theorem sm_link (ms : List Mo) (c : Cf) : smLa (linkL ms c) := by
  by_cases h : linkC ms c = 0
  · rw [show linkL ms c = laF ms c from if_pos h]
    obtain ⟨⟨ca0, ca1, _⟩, ⟨ln0, ln1⟩, hgm, _⟩ := sound_of (link_sound h)
    have hpl := plP_len (ms := ms) (i := ms.length) (Nat.le_refl _)
    have hbk := plP_bk hgm ms.length
    have htg : ∀ t ∈ (ms.map fun m => tgsOf ms m.imps), t.length ≤ 16 := fun t ht => by
      obtain ⟨m, hm, rfl⟩ := List.mem_map.1 ht
      exact tgs_bd (hgm m hm)
    have b1 := sum_bd (w := wP) (n := 7) (l := (plP ms ms.length).1) fun p hp => by have := hbk p hp; simp only [wP]; omega
    have b2 := sum_bd (w := wT) (n := 48) (l := ms.map fun m => tgsOf ms m.imps) fun t ht => by have := htg t ht; simp only [wT]; omega
    rw [List.length_map] at b2
    refine ⟨?_, ?_, ?_, ?_, ?_, ?_, ?_⟩
    · show (plP ms ms.length).1.length ≤ _
      omega
    · intro p hp
      have := hbk p hp
      simp only [smPl]
      omega
    · show sumW wP (plP ms ms.length).1 ≤ _
      simp only [sumW]
      omega
    · show (slP _ _ _).1.length ≤ _
      rw [slP_len]
      omega
    · show (ms.map _).length ≤ _
      rw [List.length_map]
      omega
    · intro t ht
      have := htg t ht
      simp only [smTgs]
      omega
    · show sumW wT (ms.map _) ≤ _
      simp only [sumW]
      omega
  · rw [show linkL ms c = zeroLa from if_neg h]
    exact ⟨by simp [zeroLa], fun p hp => by simp [zeroLa] at hp, by simp [zeroLa, sumW], by simp [zeroLa], by simp [zeroLa], fun p hp => by simp [zeroLa] at hp, by simp [zeroLa, sumW]⟩
theorem lendT4 (l : List (List AV)) : List.take l.length (List.drop 0 l) = l := by rw [List.drop_zero, List.take_length]
theorem lendK {α : Type} {C : α → List AV} {l : List α} {n : Nat} (h : l.length = n) : List.take n (List.drop 0 (l.map C)) = l.map C ∧ (l.map C).length = n := by
  subst h
  exact ⟨lendD _ _, List.length_map _⟩
end Go.Proofs.YtbfjkjdbdejnmaaGreat.Ab

/- Whether a layout is one that Link gives: both programs' walks. No condition. -/
namespace Go.Proofs.YtbfjkjdbdejnmaaGreat.Ab
set_option linter.unusedVariables false
set_option linter.unusedSimpArgs false

def hReal : CH := fun args hl K => match args, hl with
  | [.imm _ _ 8 L, a], [] => ∃ (ms : List Mo) (l : La), L = ms.map moC ∧ ms.length ≤ 1048576 ∧ (∀ m ∈ ms, smMo m) ∧ LaV a l ∧ smLa l ∧ (RealP ms l → K (.v (.bool true)) []) ∧ (¬ RealP ms l → K (.v (.bool false)) [])
  | _, _ => False
theorem gives_of {ms : List Mo} {l : La} {w : Int} (h : linkC ms (cfL l w) = 0) (e : linkL ms (cfL l w) = l) : GivesP ms l w := ⟨h, by rw [linkL, if_pos h] at e; exact e⟩
theorem gives_eq {ms : List Mo} {l : La} {w : Int} (h : GivesP ms l w) : linkC ms (cfL l w) = 0 ∧ linkL ms (cfL l w) = l := ⟨h.1, by rw [linkL, if_pos h.1]; exact h.2⟩
abbrev laI (l : La) (b1 z1 b2 z2 b3 z3 : Bool) : List AV := [.imm b1 z1 4 (l.pls.map plC), .v (.int .i64 l.stack), .imm b2 z2 1 (l.slots.map intC), .v (.int .i64 l.flash), .v (.int .i64 l.ram), .imm b3 z3 1 (l.tgts.map tgsC)]
def cx_s_l5Real : Ctx := mkCut [(88, callM [] true hEnds), (89, callM [] true hLink), (90, callM [] true hSameLa)]
theorem cx_s_l5Real_ok : CtxOk Tryz.prog cx_s_l5Real := mkCut_ok (mem1 ⟨s_l5Ends, fnOk Tryz.func88 rfl rfl⟩ (mem1 ⟨s_spec_Link, fnOk Tryz.func89 rfl rfl⟩ (mem1 ⟨s_SameLayout, fnOk Tryz.func90 rfl rfl⟩ mem0)))
set_option maxRecDepth 100000 in
set_option pp.maxSteps 1500 in
set_option maxHeartbeats 16000000 in
theorem s_l5Real : HSound Tryz.prog 37 (callM [] true hReal) := by
  refine callM_sound cx_s_l5Real_ok mixed Tryz.func37 rfl fun args hl K hp => ?_
  unfold hReal at hp
  split at hp
  · rename_i t z L a
    obtain ⟨ms, l, rfl, hlen, hsm, ⟨b1, z1, b2, z2, b3, z3, rfl⟩, hb, hp1, hp2⟩ := hp
    have hsl := hb.slots
    refine Or.inr (Exists.intro true (Exists.intro [0, 3, 5] (Exists.intro (fun vs h => vs = [.imm t z 8 (ms.map moC), .ptr 0 0 0 6, .ptr 1 0 0 4] ∧ h = [.box (laI l b1 z1 b2 z2 b3 z3), .box [.v (.int .i64 l.slots.length), .v (.int .i64 1), .v (.int .i64 (stackF l)), .v (.int .i64 0)]]) (And.intro ?_ ?_))))
    · refine Or.inl ?_
      refine And.intro (show wfB _ = true from by kernel_rfl) ?_
      repeat' (first
        | (refine Exists.intro l ?_; refine And.intro ⟨_, _, _, _, _, _, rfl⟩ ?_; exact And.intro rfl rfl)
        | refine And.intro (show wfB _ = true from by kernel_rfl) ?_ | refine And.intro (And.intro rfl rfl) ?_ | exact And.intro rfl rfl | apply HeldC.intro | exact AV.top | (apply HeldF.intro; refine Exists.intro _ (And.intro (by assumption) ?_); refine And.intro (by decide) ?_; exact And.intro rfl rfl) | (refine And.intro (by (refine Exists.intro _ (And.intro (by assumption) ?_); refine And.intro (by decide) ?_; exact And.intro rfl rfl)) ?_) | refine Or.inl ?_
        | refine And.intro ?_ ?_
        | fail)
      all_goals refine Exists.intro [] ?_
      all_goals refine And.intro rfl ?_
      all_goals rw [List.length_map]
      all_goals rfl
    rintro vs h ⟨rfl, rfl⟩
    refine Or.inr (Exists.intro true (Exists.intro [0, 3, 5] (Exists.intro (fun vs h => vs = [.imm t z 8 (ms.map moC), .ptr 0 0 0 6, .ptr 1 0 0 4] ∧ h = [.box (laI l b1 z1 b2 z2 b3 z3), .box [.v (.int .i64 l.slots.length), .v (.int .i64 (wordsF l)), .v (.int .i64 (stackF l)), .v (.int .i64 0)]]) (And.intro ?_ ?_))))
    · repeat' ((first
        | refine And.intro (fun h1 => ?_) (fun h1 => ?_)
        | fail) <;> try cases h1)
      · rename_i h0
        have h0 := of_decide_eq_true h0
        have h1 := of_decide_eq_true h1
        rw [List.length_map] at h0 h1
        obtain ⟨s, hs⟩ : ∃ s, l.slots[0]? = some s := ⟨_, List.getElem?_eq_getElem (by omega)⟩
        have ew : wordsF l = IntKind.i64.wrap ((IntKind.i64.wrap ((IntKind.i64.wrap (IntKind.i64.wrap (65536 + l.ram) - s)).tdiv ((l.slots.map intC).length : Int))).tdiv 4) := by
          rw [wordsF, if_pos (by omega), List.getD_eq_getElem?_getD, hs, List.length_map]
          rfl
        have hg := get_map (f := intC) hs
        have hne : ((l.slots.map intC).length : Int) ≠ 0 := by rw [List.length_map]; omega
        first | refine Or.inl (Or.inl ?_) | refine Or.inl ?_
        refine And.intro (show wfB _ = true from by kernel_rfl) ?_
        repeat' (first
          | refine Exists.intro 0 (And.intro rfl (Exists.intro _ (And.intro hg ?_)))
          | refine And.intro hne ?_
          | refine And.intro (show (4 : Int) ≠ 0 by decide) ?_
          | refine And.intro (show wfB _ = true from by kernel_rfl) ?_ | refine And.intro (And.intro rfl rfl) ?_ | exact And.intro rfl rfl | apply HeldC.intro | exact AV.top | (apply HeldF.intro; refine Exists.intro _ (And.intro (by assumption) ?_); refine And.intro (by decide) ?_; exact And.intro rfl rfl) | (refine And.intro (by (refine Exists.intro _ (And.intro (by assumption) ?_); refine And.intro (by decide) ?_; exact And.intro rfl rfl)) ?_) | refine Or.inl ?_
          | fail)
        refine Exists.intro [] (And.intro rfl ?_)
        rw [ew]
      all_goals simp only [List.length_map, decide_eq_false_iff_not, decide_eq_true_eq] at *
      all_goals refine Exists.intro [] (And.intro rfl ?_)
      all_goals rw [show wordsF l = 1 from if_neg (by omega)]
      all_goals rfl
    rintro vs h ⟨rfl, rfl⟩
    refine Exists.intro ms (And.intro rfl (And.intro hlen (And.intro hsm ?_)))
    have hb2 := sm_link ms (cfL l (wordsF l))
    have q1 : linkC ms (cfL l (wordsF l)) = 0 → linkL ms (cfL l (wordsF l)) = l → RealP ms l := fun h e => gives_of h e
    have q2 : RealP ms l → linkC ms (cfL l (wordsF l)) = 0 ∧ linkL ms (cfL l (wordsF l)) = l := fun h => gives_eq h
    rw [show cfL l (wordsF l) = ⟨l.slots.length, wordsF l, stackF l, 0⟩ from rfl] at hb2 q1 q2
    generalize linkL ms ⟨l.slots.length, wordsF l, stackF l, 0⟩ = k at *
    generalize linkC ms ⟨l.slots.length, wordsF l, stackF l, 0⟩ = n at *
    repeat' ((first
      | refine And.intro (fun h1 => ?_) (fun h1 => ?_)
      | refine Exists.intro _ (And.intro (lendD _ _) (And.intro (List.length_map _) ?_))
      | refine And.intro (closed_Place _) ?_
      | refine And.intro (closed_Int _) ?_
      | refine And.intro (closed_TargetS _) ?_
      | refine Exists.intro k (Exists.intro l (And.intro ⟨_, _, _, _, _, _, rfl⟩ (And.intro ⟨_, _, _, _, _, _, rfl⟩ (And.intro hb2 (And.intro (fun h2 => ?_) (fun h2 => ?_))))))
      | fail) <;> try cases h1)
    · exact hp1 (q1 (by simpa using h1) h2)
    · exact hp2 fun h => h2 (q2 h).2
    · exact hp2 fun h => by simp [(q2 h).1] at h1
  · exact hp.elim
def cx_s_linked : Ctx := mkCut [(101, callM [] true hEnds), (102, callM [] true hLink), (103, callM [] true hSameLa)]
theorem cx_s_linked_ok : CtxOk Tryz.prog cx_s_linked := mkCut_ok (mem1 ⟨s_stackEnd, fnOk Tryz.func101 rfl rfl⟩ (mem1 ⟨s_impl_Link, fnOk Tryz.func102 rfl rfl⟩ (mem1 ⟨s_equal, fnOk Tryz.func103 rfl rfl⟩ mem0)))
set_option maxRecDepth 100000 in
set_option pp.maxSteps 1500 in
set_option maxHeartbeats 16000000 in
theorem s_linked : HSound Tryz.prog 43 (callM [] true hReal) := by
  refine callM_sound cx_s_linked_ok mixed Tryz.func43 rfl fun args hl K hp => ?_
  unfold hReal at hp
  split at hp
  · rename_i t z L a
    obtain ⟨ms, l, rfl, hlen, hsm, ⟨b1, z1, b2, z2, b3, z3, rfl⟩, hb, hp1, hp2⟩ := hp
    have hsl := hb.slots
    rw [← real_tried] at hp1 hp2
    refine Or.inr (Exists.intro true (Exists.intro [0, 3, 5] (Exists.intro (fun vs h => vs = [.imm t z 8 (ms.map moC), .ptr 0 0 0 6, .ptr 1 0 0 4] ∧ h = [.box (laI l b1 z1 b2 z2 b3 z3), .box [.v (.int .i64 l.slots.length), .v (.int .i64 1), .v (.int .i64 (stackF l)), .v (.int .i64 0)]]) (And.intro ?_ ?_))))
    · refine Or.inl ?_
      refine And.intro (show wfB _ = true from by kernel_rfl) ?_
      repeat' (first
        | (refine Exists.intro l ?_; refine And.intro ⟨_, _, _, _, _, _, rfl⟩ ?_; exact And.intro rfl rfl)
        | refine And.intro (show wfB _ = true from by kernel_rfl) ?_ | refine And.intro (And.intro rfl rfl) ?_ | exact And.intro rfl rfl | apply HeldC.intro | exact AV.top | (apply HeldF.intro; refine Exists.intro _ (And.intro (by assumption) ?_); refine And.intro (by decide) ?_; exact And.intro rfl rfl) | (refine And.intro (by (refine Exists.intro _ (And.intro (by assumption) ?_); refine And.intro (by decide) ?_; exact And.intro rfl rfl)) ?_) | refine Or.inl ?_
        | refine And.intro ?_ ?_
        | fail)
      all_goals refine Exists.intro [] ?_
      all_goals refine And.intro rfl ?_
      all_goals rw [List.length_map]
      all_goals rfl
    rintro vs h ⟨rfl, rfl⟩
    refine Or.inl ?_
    refine And.intro (fun h0 => ?_) (fun h0 => ?_)
    · have h0 : l.slots.length = 0 := by simpa using h0
      rw [show TriedP ms l ↔ GivesP ms l 1 from by unfold TriedP; rw [if_pos h0]] at hp1 hp2
      refine Exists.intro ms (And.intro rfl (And.intro hlen (And.intro hsm ?_)))
      have hb2 := sm_link ms (cfL l 1)
      have q1 : linkC ms (cfL l 1) = 0 → linkL ms (cfL l 1) = l → GivesP ms l 1 := fun h e => gives_of h e
      have q2 : GivesP ms l 1 → linkC ms (cfL l 1) = 0 ∧ linkL ms (cfL l 1) = l := fun h => gives_eq h
      rw [show cfL l 1 = ⟨l.slots.length, 1, stackF l, 0⟩ from rfl] at hb2 q1 q2
      generalize linkL ms ⟨l.slots.length, 1, stackF l, 0⟩ = k at *
      generalize linkC ms ⟨l.slots.length, 1, stackF l, 0⟩ = n at *
      repeat' ((first
        | refine And.intro (fun h1 => ?_) (fun h1 => ?_)
        | refine Exists.intro _ (And.intro (lendD _ _) (And.intro (List.length_map _) ?_))
        | refine And.intro (closed_Place _) ?_
        | refine And.intro (closed_Int _) ?_
        | refine And.intro (closed_TargetS _) ?_
        | refine Exists.intro l (Exists.intro k (And.intro ⟨_, _, _, _, _, _, rfl⟩ (And.intro ⟨_, _, _, _, _, _, rfl⟩ (And.intro hb (And.intro (fun h2 => ?_) (fun h2 => ?_))))))
        | fail) <;> try cases h1)
      · exact hp1 (q1 (by simpa using h1) h2.symm)
      · exact hp2 fun h => h2 (q2 h).2.symm
      · exact hp2 fun h => by simp [(q2 h).1] at h1
    have h0 : ¬ l.slots.length = 0 := by simpa using h0
    rw [show TriedP ms l ↔ ∃ k : Nat, k < 8 ∧ GivesP ms l (8 + 8 * (k : Int)) from by unfold TriedP; rw [if_neg h0]] at hp1 hp2
    refine Exists.intro true (Exists.intro [0, 3, 5] (Exists.intro (fun m vs h => ∃ k : Nat, k ≤ 8 ∧ m = 8 - k ∧ (∀ j : Nat, j < k → ¬ GivesP ms l (8 + 8 * (j : Int))) ∧ vs = [.imm t z 8 (ms.map moC), .ptr 0 0 0 6, .ptr 1 0 0 4] ∧
      h = [.box (laI l b1 z1 b2 z2 b3 z3), .box [.v (.int .i64 l.slots.length), .v (.int .i64 (8 + 8 * (k : Int))), .v (.int .i64 (stackF l)), .v (.int .i64 0)]]) (And.intro ?_ ?_)))
    · refine Exists.intro [] (Exists.intro 8 ?_)
      exact ⟨0, by omega, rfl, fun j hj => by omega, rfl, rfl⟩
    intro m vs h hI
    obtain ⟨j, hj, rfl, hno, rfl, rfl⟩ := hI
    refine Or.inl ?_
    refine And.intro (fun h3 => ?_) (fun h3 => ?_)
    · have h3 := of_decide_eq_true h3
      have hj8 : j < 8 := by omega
      have hw8 : IntKind.i64.wrap (8 + 8 * (j : Int) + 8) = 8 + 8 * ((j + 1 : Nat) : Int) := by rw [wrap64 (by omega)]; omega
      refine Exists.intro ms (And.intro rfl (And.intro hlen (And.intro hsm ?_)))
      have hb2 := sm_link ms (cfL l (8 + 8 * (j : Int)))
      have q1 : linkC ms (cfL l (8 + 8 * (j : Int))) = 0 → linkL ms (cfL l (8 + 8 * (j : Int))) = l → GivesP ms l (8 + 8 * (j : Int)) := fun h e => gives_of h e
      have q2 : GivesP ms l (8 + 8 * (j : Int)) → linkC ms (cfL l (8 + 8 * (j : Int))) = 0 ∧ linkL ms (cfL l (8 + 8 * (j : Int))) = l := fun h => gives_eq h
      rw [show cfL l (8 + 8 * (j : Int)) = ⟨l.slots.length, 8 + 8 * (j : Int), stackF l, 0⟩ from rfl] at hb2 q1 q2
      generalize linkL ms ⟨l.slots.length, 8 + 8 * (j : Int), stackF l, 0⟩ = k at *
      generalize linkC ms ⟨l.slots.length, 8 + 8 * (j : Int), stackF l, 0⟩ = n at *
      have hnext : ¬ GivesP ms l (8 + 8 * (j : Int)) → ∀ i : Nat, i < j + 1 → ¬ GivesP ms l (8 + 8 * (i : Int)) := fun h i hi => by
        rcases Nat.lt_or_ge i j with r | r
        · exact hno i r
        · have : i = j := by omega
          subst this
          exact h
      repeat' ((first
        | refine And.intro (fun h1 => ?_) (fun h1 => ?_)
        | refine Exists.intro _ (And.intro (lendD _ _) (And.intro (List.length_map _) ?_))
        | refine And.intro (closed_Place _) ?_
        | refine And.intro (closed_Int _) ?_
        | refine And.intro (closed_TargetS _) ?_
        | refine Exists.intro l (Exists.intro k (And.intro ⟨_, _, _, _, _, _, rfl⟩ (And.intro ⟨_, _, _, _, _, _, rfl⟩ (And.intro hb (And.intro (fun h2 => ?_) (fun h2 => ?_))))))
        | refine Or.inl ?_
        | fail) <;> try cases h1)
      · exact hp1 ⟨j, hj8, q1 (by simpa using h1) h2.symm⟩
      · exact Exists.intro [] (Exists.intro (8 - (j + 1)) (And.intro (by omega) ⟨j + 1, by omega, rfl, hnext (fun h => h2 (q2 h).2.symm), rfl, by rw [hw8]⟩))
      · exact Exists.intro [] (Exists.intro (8 - (j + 1)) (And.intro (by omega) ⟨j + 1, by omega, rfl, hnext (fun h => by simp [(q2 h).1] at h1), rfl, by rw [hw8]⟩))
    · have h3 := of_decide_eq_false h3
      refine hp2 ?_
      rintro ⟨i, hi, h⟩
      exact hno i (by omega) h
  · exact hp.elim
end Go.Proofs.YtbfjkjdbdejnmaaGreat.Ab
