/- Layouts: compared, marked, found again. No condition. -/
import Derived.Test.YtijjonafmmhhbaaTLay1
import Derived.Test.YtijjonafmmhhbaaTLay2
import Derived.Test.YtijjonafmmhhbaaTLinkD
namespace Go.Proofs.Ytijjonafmmhhbaa.Ab
set_option linter.unusedVariables false
set_option linter.unusedSimpArgs false

def mkG {α : Type} (w : α → Nat) (g : Int → α → α) (k : Int) : List α → List α
  | [] => []
  | a :: l => g k a :: mkG w g (k + w a) l
section
variable {α : Type} {w : α → Nat} {g : Int → α → α}
theorem mkG_app (k : Int) : ∀ (l r : List α), mkG w g k (l ++ r) = mkG w g k l ++ mkG w g (k + ((l.map w).sum : Nat)) r
  | [], r => by simp [mkG]
  | a :: l, r => by
    simp only [List.cons_append, mkG, List.map_cons, List.sum_cons]
    rw [mkG_app, show k + (w a : Int) + ((List.map w l).sum : Nat) = k + ((w a + (List.map w l).sum : Nat) : Int) by omega]
theorem mkG_len (k : Int) : ∀ l : List α, (mkG w g k l).length = l.length
  | [] => rfl
  | a :: l => by simp [mkG, mkG_len (k + w a) l]
theorem mkG_step {l : List α} {k : Int} {i : Nat} {a : α} (h : l[i]? = some a) : (mkG w g k (l.take i) ++ l.drop i).set i (g (k + (((l.take i).map w).sum : Nat)) a) = mkG w g k (l.take (i + 1)) ++ l.drop (i + 1) := by
  obtain ⟨hi, hb⟩ := List.getElem?_eq_some_iff.1 h
  have hl : (mkG w g k (l.take i)).length = i := by rw [mkG_len, List.length_take]; omega
  rw [List.set_append_right _ _ (by omega), hl, Nat.sub_self, List.drop_eq_getElem_cons hi, List.set_cons_zero, List.take_add_one, h]
  simp only [Option.toList]
  rw [mkG_app]
  simp [mkG]
theorem mkG_at {l : List α} {k : Int} {i : Nat} {a : α} (h : l[i]? = some a) : (mkG w g k (l.take i) ++ l.drop i)[i]? = some a := by
  have e : (mkG w g k (l.take i)).length = i := by
    obtain ⟨hi, hb⟩ := List.getElem?_eq_some_iff.1 h
    rw [mkG_len, List.length_take]; omega
  rw [List.getElem?_append_right (by omega), e, Nat.sub_self, List.getElem?_drop, Nat.add_zero, h]
theorem mkG_get {l : List α} {k : Int} {i : Nat} {a : α} (h : l[i]? = some a) : (mkG w g k l)[i]? = some (g (k + (((l.take i).map w).sum : Nat)) a) := by
  obtain ⟨hi, hb⟩ := List.getElem?_eq_some_iff.1 h
  have e : l = l.take i ++ a :: l.drop (i + 1) := by
    conv => lhs; rw [← List.take_append_drop i l, List.drop_eq_getElem_cons hi, hb]
  have el : (mkG w g k (l.take i)).length = i := by rw [mkG_len, List.length_take]; omega
  conv => lhs; rw [e]
  rw [mkG_app, List.getElem?_append_right (by omega), el, Nat.sub_self]
  simp [mkG]
end
def wP (p : Pl) : Nat := p.banks.length + 3
def gP (k : Int) (p : Pl) : Pl := ⟨k, marksInt (k + 1) p.banks.length, k + 1 + p.banks.length, k + 1 + p.banks.length + 1⟩
def wT (t : List Tg) : Nat := 3 * t.length
def gT (k : Int) (t : List Tg) : List Tg := marksTarget k t.length
abbrev sumW {α : Type} (w : α → Nat) (l : List α) : Nat := (l.map w).sum

/-! ### Lists of targets -/

def hMarkTgS : CH := fun args hl K => match args, hl with
  | [.slc 0 0 n _, .v (.int .i64 k)], [.lst 1 L] => ∃ bs : List (List Tg), L = bs.map tgsC ∧ n = bs.length ∧ bs.length ≤ 1048576 ∧ sumW wT bs ≤ 1048576 ∧ 0 ≤ k ∧ k ≤ 1073741824 ∧ K (.v (.int .i64 (k + sumW wT bs))) [.lst 1 ((mkG wT gT k bs).map tgsC)]
  | _, _ => False
def cx_s_markTargetSS : Ctx := mkC [(129, callM [.rw] false hMarkTarget)]
theorem cx_s_markTargetSS_ok : CtxOk Try.prog cx_s_markTargetSS := mkC_ok (mem1 ⟨s_markTargetS, fnOk Try.func129 rfl rfl⟩ mem0)
set_option maxRecDepth 100000 in
set_option pp.maxSteps 1500 in
set_option maxHeartbeats 4000000 in
theorem s_markTargetSS : HSound Try.prog 82 (callM [.rw] false hMarkTgS) := by
  refine callM_sound cx_s_markTargetSS_ok mixed Try.func82 rfl fun args hl K hp => ?_
  unfold hMarkTgS at hp
  split at hp
  · rename_i n z0 k _
    obtain ⟨bs, rfl, rfl, hb, hw, hk0, hk1, hp⟩ := hp
    refine Exists.intro true (Exists.intro [0, 1, 5] (Exists.intro (fun m vs h => ∃ i : Nat, i ≤ bs.length ∧ m = bs.length - i ∧ vs = [.slc 0 0 bs.length false, .v (.int .i64 (k + sumW wT (bs.take i))), .v (.int .i64 i)] ∧ h = [.lst 1 ((mkG wT gT k (bs.take i) ++ bs.drop i).map tgsC)]) (And.intro ?_ ?_)))
    · refine Exists.intro [] ?_
      refine And.intro (closed_TargetS _) ?_
      refine Exists.intro bs.length ?_
      exact ⟨0, by omega, rfl, by simp [sumW], rfl⟩
    · intro m vs h hI
      obtain ⟨i, hi, rfl, rfl, rfl⟩ := hI
      refine And.intro (fun h1 => ?_) (fun h1 => ?_)
      · simp only [decide_eq_true_eq] at h1
        have hlt : i < bs.length := by omega
        obtain ⟨b, hbi⟩ : ∃ b, bs[i]? = some b := ⟨_, List.getElem?_eq_getElem hlt⟩
        have hst := mkG_step (w := wT) (g := gT) (k := k) hbi
        have hcl := closed_TargetS (mkG wT gT k (bs.take (i + 1)) ++ bs.drop (i + 1))
        have hle := sum_take_le wT bs i
        have hsum := sum_take (f := wT) hbi
        have hbl : wT b ≤ 1048576 := by have := le_sum (f := wT) (List.mem_of_getElem? hbi); simp only [sumW] at hw; omega
        have hg : ((mkG wT gT k (bs.take i) ++ bs.drop i).map tgsC)[0 + i]? = some (tgsC b) := by rw [Nat.zero_add]; exact get_map (mkG_at hbi)
        have hlen : ((mkG wT gT k (bs.take i) ++ bs.drop i).map tgsC).length = bs.length := by rw [List.length_map, List.length_append, mkG_len, List.length_take, List.length_drop]; omega
        rw [← hst, List.map_set] at hcl
        have hst2 : (mkG wT gT k (bs.take (i + 1)) ++ bs.drop (i + 1)).map tgsC = ((mkG wT gT k (bs.take i) ++ bs.drop i).map tgsC).set i (tgsC (gT (k + (((bs.take i).map wT).sum : Nat)) b)) := by rw [← hst, List.map_set]
        generalize (mkG wT gT k (bs.take i) ++ bs.drop i).map tgsC = L at *
        simp only [sumW] at *
        generalize hS : ((bs.take i).map wT).sum = S at *
        simp only [wT] at hbl hsum
        refine Exists.intro i (And.intro rfl (And.intro hlt ?_))
        refine Exists.intro _ (And.intro hg (And.intro (by decide) ?_))
        refine And.intro (closed_Target _) ?_
        refine Exists.intro b (And.intro rfl (And.intro (List.length_map _) (And.intro (by omega) (And.intro (by omega) (And.intro (by omega) ?_)))))
        refine Exists.intro [(0, 0 + i, 0)] ?_
        refine Exists.intro _ (And.intro (get_set (by omega)) ?_)
        refine Exists.intro _ (And.intro (List.take_of_length_le (by simp only [List.length_map, marksTarget, List.length_range]; exact Nat.le_refl _)) (And.intro (by simp only [List.length_map, marksTarget, List.length_range]) (And.intro (closed_Target _) ?_)))
        have e9 : (L.set (0 + i) [.slc 1 0 (List.map tgC b).length false]).set (0 + i) [.sl 3 ((marksTarget (k + S) (List.map tgC b).length).map tgC)] = L.set i (tgsC (gT (k + S) b)) := by
          rw [List.set_set, Nat.zero_add, List.length_map]
          rfl
        refine And.intro (show ClosedL ((L.set (0 + i) _).set (0 + i) _) from e9 ▸ hcl) ?_
        refine Exists.intro (bs.length - (i + 1)) (And.intro (by omega) ⟨i + 1, by omega, rfl, ?_, ?_⟩)
        · rw [wrap_succ hlt (by omega), hsum, List.length_map, show k + (S : Int) + 3 * (b.length : Int) = k + ((S + 3 * b.length : Nat) : Int) by omega]
        · rw [hst2, ← e9]
      · simp only [decide_eq_false_iff_not] at h1
        have hil : i = bs.length := by omega
        subst hil
        rw [List.drop_length, List.append_nil, List.take_length]
        refine And.intro (closed_TargetS _) ?_
        exact hp
  · exact hp.elim
def hHeldTgS : CH := fun args hl K => match args, hl with
  | [.imm _ _ 1 L, .v (.int .i64 k)], [] => ∃ bs : List (List Tg), L = (mkG wT gT k bs).map tgsC ∧ bs.length ≤ 1048576 ∧ sumW wT bs ≤ 1048576 ∧ 0 ≤ k ∧ k ≤ 1073741824 ∧ K (.v (.int .i64 (k + sumW wT bs))) []
  | _, _ => False
def cx_s_heldTargetSS : Ctx := mkC [(130, callM [] true hHeldTarget)]
theorem cx_s_heldTargetSS_ok : CtxOk Try.prog cx_s_heldTargetSS := mkC_ok (mem1 ⟨s_heldTargetS, fnOk Try.func130 rfl rfl⟩ mem0)
set_option maxRecDepth 100000 in
set_option pp.maxSteps 1500 in
set_option maxHeartbeats 4000000 in
theorem s_heldTargetSS : HSound Try.prog 84 (callM [] true hHeldTgS) := by
  refine callM_sound cx_s_heldTargetSS_ok mixed Try.func84 rfl fun args hl K hp => ?_
  unfold hHeldTgS at hp
  split at hp
  · rename_i t z L k
    obtain ⟨bs, rfl, hb, hw, hk0, hk1, hp⟩ := hp
    have hml := mkG_len (w := wT) (g := gT) k bs
    refine Exists.intro true (Exists.intro [0, 1, 5] (Exists.intro (fun m vs h => ∃ i : Nat, i ≤ bs.length ∧ m = bs.length - i ∧ vs = [.imm t z 1 ((mkG wT gT k bs).map tgsC), .v (.int .i64 (k + sumW wT (bs.take i))), .v (.int .i64 i)] ∧ h = []) (And.intro ?_ ?_)))
    · refine Exists.intro [] (Exists.intro bs.length ?_)
      exact ⟨0, by omega, rfl, by simp [sumW], rfl⟩
    · intro m vs h hI
      obtain ⟨i, hi, rfl, rfl, rfl⟩ := hI
      refine And.intro (fun h1 => ?_) (fun h1 => ?_)
      · simp only [decide_eq_true_eq, List.length_map, hml] at h1
        have hlt : i < bs.length := by omega
        obtain ⟨b, hbi⟩ : ∃ b, bs[i]? = some b := ⟨_, List.getElem?_eq_getElem hlt⟩
        have hg := get_map (f := tgsC) (mkG_get (w := wT) (g := gT) (k := k) hbi)
        have hle := sum_take_le wT bs i
        have hsum := sum_take (f := wT) hbi
        have hbl : wT b ≤ 1048576 := by have := le_sum (f := wT) (List.mem_of_getElem? hbi); simp only [sumW] at hw; omega
        simp only [sumW] at *
        generalize hS : ((bs.take i).map wT).sum = S at *
        simp only [wT] at hbl hsum
        refine Exists.intro i (And.intro rfl (Exists.intro _ (And.intro hg ?_)))
        refine Exists.intro b.length (And.intro rfl (And.intro (by omega) (And.intro (by omega) (And.intro (by omega) ?_))))
        refine And.intro (fun h2 => by exfalso; simp at h2; omega) (fun h2 => ?_)
        refine Exists.intro [] (Exists.intro (bs.length - (i + 1)) (And.intro (by omega) ⟨i + 1, by omega, rfl, ?_, rfl⟩))
        rw [wrap_succ hlt (by omega), hsum, show k + (S : Int) + 3 * (b.length : Int) = k + ((S + 3 * b.length : Nat) : Int) by omega]
      · simp only [decide_eq_false_iff_not, List.length_map, hml] at h1
        have hil : i = bs.length := by omega
        subst hil
        rw [List.take_length]
        exact hp
  · exact hp.elim
end Go.Proofs.Ytijjonafmmhhbaa.Ab
