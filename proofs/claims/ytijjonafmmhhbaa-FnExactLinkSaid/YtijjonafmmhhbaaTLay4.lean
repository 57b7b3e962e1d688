/- Layouts: compared, marked, found again. No condition. -/
import Derived.Test.YtijjonafmmhhbaaTLay3
import Derived.Test.YtijjonafmmhhbaaTLink3
namespace Go.Proofs.Ytijjonafmmhhbaa.Ab
set_option linter.unusedVariables false
set_option linter.unusedSimpArgs false

theorem clo_setP {L : List (List AV)} {cs : List Pl} {i : Nat} (hcs : ∀ p : Pl, ((cs.set i p).map plC) = L.set (0 + i) (plC p)) (p : Pl) : ClosedL (L.set (0 + i) (plC p)) := by
  rw [← hcs]
  exact closed_Place _
def hMarkPl : CH := fun args hl K => match args, hl with
  | [.slc 0 0 n _, .v (.int .i64 k)], [.lst 4 L] => ∃ bs : List Pl, L = bs.map plC ∧ n = bs.length ∧ bs.length ≤ 1048576 ∧ sumW wP bs ≤ 1048576 ∧ 0 ≤ k ∧ k ≤ 1073741824 ∧ K (.v (.int .i64 (k + sumW wP bs))) [.lst 4 ((mkG wP gP k bs).map plC)]
  | _, _ => False
def cx_s_markPlaceS : Ctx := mkC [(58, callM [.rw] false hMarkInt)]
theorem cx_s_markPlaceS_ok : CtxOk Try.prog cx_s_markPlaceS := mkC_ok (mem1 ⟨s_markIntS, fnOk Try.func58 rfl rfl⟩ mem0)
set_option maxRecDepth 100000 in
set_option pp.maxSteps 1500 in
set_option maxHeartbeats 8000000 in
theorem s_markPlaceS : HSound Try.prog 81 (callM [.rw] false hMarkPl) := by
  refine callM_sound cx_s_markPlaceS_ok mixed Try.func81 rfl fun args hl K hp => ?_
  unfold hMarkPl at hp
  split at hp
  · rename_i n z0 k _
    obtain ⟨bs, rfl, rfl, hb, hw, hk0, hk1, hp⟩ := hp
    refine Exists.intro true (Exists.intro [0, 1, 5] (Exists.intro (fun m vs h => ∃ i : Nat, i ≤ bs.length ∧ m = bs.length - i ∧ vs = [.slc 0 0 bs.length false, .v (.int .i64 (k + sumW wP (bs.take i))), .v (.int .i64 i)] ∧ h = [.lst 4 ((mkG wP gP k (bs.take i) ++ bs.drop i).map plC)]) (And.intro ?_ ?_)))
    · refine Exists.intro [] ?_
      refine And.intro (closed_Place _) ?_
      refine Exists.intro bs.length ?_
      exact ⟨0, by omega, rfl, by simp [sumW], rfl⟩
    · intro m vs h hI
      obtain ⟨i, hi, rfl, rfl, rfl⟩ := hI
      refine And.intro (fun h1 => ?_) (fun h1 => ?_)
      · simp only [decide_eq_true_eq] at h1
        have hlt : i < bs.length := by omega
        obtain ⟨b, hbi⟩ : ∃ b, bs[i]? = some b := ⟨_, List.getElem?_eq_getElem hlt⟩
        have hst := mkG_step (w := wP) (g := gP) (k := k) hbi
        have hle := sum_take_le wP bs i
        have hsum := sum_take (f := wP) hbi
        have hbl : wP b ≤ 1048576 := by have := le_sum (f := wP) (List.mem_of_getElem? hbi); simp only [sumW] at hw; omega
        have hg : ((mkG wP gP k (bs.take i) ++ bs.drop i).map plC)[0 + i]? = some (plC b) := by rw [Nat.zero_add]; exact get_map (mkG_at hbi)
        have hlen : ((mkG wP gP k (bs.take i) ++ bs.drop i).map plC).length = bs.length := by rw [List.length_map, List.length_append, mkG_len, List.length_take, List.length_drop]; omega
        have hcs : ∀ p : Pl, (((mkG wP gP k (bs.take i) ++ bs.drop i).set i p).map plC) = ((mkG wP gP k (bs.take i) ++ bs.drop i).map plC).set (0 + i) (plC p) := fun p => by rw [Nat.zero_add, List.map_set]
        generalize mkG wP gP k (bs.take i) ++ bs.drop i = CS at *
        generalize CS.map plC = L at *
        simp only [sumW] at *
        generalize hS : ((bs.take i).map wP).sum = S at *
        simp only [wP] at hbl hsum
        generalize hκ : k + (S : Int) = κ at *
        have j1 : (b.banks.map intC).length = b.banks.length := List.length_map _
        have hw1 : IntKind.i64.wrap (κ + 1) = κ + 1 := wrap64 (by omega)
        have hw2 : IntKind.i64.wrap (IntKind.i64.wrap (κ + 1) + ((b.banks.map intC).length : Int) + 1) = κ + 1 + b.banks.length + 1 := by rw [hw1, j1]; exact wrap64 (by omega)
        have hw3 : IntKind.i64.wrap (IntKind.i64.wrap (IntKind.i64.wrap (κ + 1) + ((b.banks.map intC).length : Int) + 1) + 1) = κ + 1 + b.banks.length + 1 + 1 := by rw [hw2]; exact wrap64 (by omega)
        have hgs : ∀ (M : List (List AV)) (e : List AV), M.length = L.length → (M.set (0 + i) e)[0 + i]? = some e := fun M e hM => get_set (by omega)
        have hkI : ∀ (k : Int) (n : Nat), ((marksInt k n).map intC).length = n := fun k n => by simp [marksInt]
        repeat' (first
          | refine Exists.intro i (And.intro rfl (And.intro hlt ?_))
          | refine Exists.intro _ (And.intro hg (And.intro (by decide) ?_))
          | refine Exists.intro _ (And.intro (hgs _ _ (by simp only [List.length_set])) (And.intro (by decide) ?_))
          | refine And.intro (by decide) ?_
          | refine And.intro (closed_Int _) ?_
          | refine Exists.intro b.banks (And.intro rfl (And.intro (List.length_map _) (And.intro (by omega) (And.intro (by omega) (And.intro (by omega) ?_)))))
          | fail)
        refine Exists.intro [(0, 0 + i, 1)] ?_
        refine Exists.intro _ (And.intro (hgs _ _ (by simp only [List.length_set])) ?_)
        refine Exists.intro _ (And.intro (List.take_of_length_le (Nat.le_of_eq (hkI _ _))) (And.intro (hkI _ _) (And.intro (closed_Int _) ?_)))
        simp only [List.set_set]
        have e9 : gP κ b = ⟨κ, marksInt (κ + 1) b.banks.length, κ + 1 + b.banks.length, κ + 1 + b.banks.length + 1⟩ := rfl
        rw [hw2, hw1, j1]
        refine And.intro (clo_setP hcs ⟨_, _, _, _⟩) ?_
        refine Exists.intro (bs.length - (i + 1)) (And.intro (by omega) ⟨i + 1, by omega, rfl, ?_, ?_⟩)
        · rw [wrap_succ hlt (by omega), hsum, show IntKind.i64.wrap (κ + 1 + (b.banks.length : Int) + 1 + 1) = k + ((S + (b.banks.length + 3) : Nat) : Int) by rw [wrap64 (by omega)]; omega]
        · rw [← hst, e9]
          exact congrArg (fun l => [Root.lst 4 l]) (hcs ⟨_, _, _, _⟩).symm
      · simp only [decide_eq_false_iff_not] at h1
        have hil : i = bs.length := by omega
        subst hil
        rw [List.drop_length, List.append_nil, List.take_length]
        refine And.intro (closed_Place _) ?_
        exact hp
  · exact hp.elim
def hHeldPl : CH := fun args hl K => match args, hl with
  | [.imm _ _ 4 L, .v (.int .i64 k)], [] => ∃ bs : List Pl, L = (mkG wP gP k bs).map plC ∧ bs.length ≤ 1048576 ∧ sumW wP bs ≤ 1048576 ∧ 0 ≤ k ∧ k ≤ 1073741824 ∧ K (.v (.int .i64 (k + sumW wP bs))) []
  | _, _ => False
def cx_s_heldPlaceS : Ctx := mkC [(62, callM [] true hHeldInt)]
theorem cx_s_heldPlaceS_ok : CtxOk Try.prog cx_s_heldPlaceS := mkC_ok (mem1 ⟨s_heldIntS, fnOk Try.func62 rfl rfl⟩ mem0)
set_option maxRecDepth 100000 in
set_option pp.maxSteps 1500 in
set_option maxHeartbeats 8000000 in
theorem s_heldPlaceS : HSound Try.prog 83 (callM [] true hHeldPl) := by
  refine callM_sound cx_s_heldPlaceS_ok mixed Try.func83 rfl fun args hl K hp => ?_
  unfold hHeldPl at hp
  split at hp
  · rename_i t z L k
    obtain ⟨bs, rfl, hb, hw, hk0, hk1, hp⟩ := hp
    have hml := mkG_len (w := wP) (g := gP) k bs
    refine Exists.intro true (Exists.intro [0, 1, 5] (Exists.intro (fun m vs h => ∃ i : Nat, i ≤ bs.length ∧ m = bs.length - i ∧ vs = [.imm t z 4 ((mkG wP gP k bs).map plC), .v (.int .i64 (k + sumW wP (bs.take i))), .v (.int .i64 i)] ∧ h = []) (And.intro ?_ ?_)))
    · refine Exists.intro [] (Exists.intro bs.length ?_)
      exact ⟨0, by omega, rfl, by simp [sumW], rfl⟩
    · intro m vs h hI
      obtain ⟨i, hi, rfl, rfl, rfl⟩ := hI
      refine And.intro (fun h1 => ?_) (fun h1 => ?_)
      · simp only [decide_eq_true_eq, List.length_map, hml] at h1
        have hlt : i < bs.length := by omega
        obtain ⟨b, hbi⟩ : ∃ b, bs[i]? = some b := ⟨_, List.getElem?_eq_getElem hlt⟩
        have hg := get_map (f := plC) (mkG_get (w := wP) (g := gP) (k := k) hbi)
        have hle := sum_take_le wP bs i
        have hsum := sum_take (f := wP) hbi
        have hbl : wP b ≤ 1048576 := by have := le_sum (f := wP) (List.mem_of_getElem? hbi); simp only [sumW] at hw; omega
        simp only [sumW] at *
        generalize hS : ((bs.take i).map wP).sum = S at *
        simp only [wP] at hbl hsum
        generalize hκ : k + (S : Int) = κ at *
        have hg2 : ((mkG wP gP k bs).map plC)[i]? = some [.v (.int .i64 κ), .sl 1 ((marksInt (κ + 1) b.banks.length).map intC), .v (.int .i64 (κ + 1 + b.banks.length)), .v (.int .i64 (κ + 1 + b.banks.length + 1))] := hg
        clear hg
        have hw1 : IntKind.i64.wrap (κ + 1) = κ + 1 := wrap64 (by omega)
        have hw2 : IntKind.i64.wrap (κ + 1 + (b.banks.length : Int) + 1) = κ + 1 + b.banks.length + 1 := wrap64 (by omega)
        have hw3 : IntKind.i64.wrap (κ + 1 + (b.banks.length : Int) + 1 + 1) = κ + 1 + b.banks.length + 1 + 1 := wrap64 (by omega)
        generalize (mkG wP gP k bs).map plC = L at *
        refine Exists.intro i (And.intro rfl (Exists.intro _ (And.intro hg2 ?_)))
        refine And.intro (fun h2 => by exfalso; simp at h2) (fun h2 => ?_)
        refine Exists.intro i (And.intro rfl (Exists.intro _ (And.intro hg2 ?_)))
        rw [hw1]
        refine Exists.intro b.banks.length (And.intro rfl (And.intro (by omega) (And.intro (by omega) (And.intro (by omega) ?_))))
        refine And.intro (fun h2 => by exfalso; simp at h2; omega) (fun h2 => ?_)
        refine Exists.intro i (And.intro rfl (Exists.intro _ (And.intro hg2 ?_)))
        refine And.intro (fun h2 => by exfalso; simp at h2) (fun h2 => ?_)
        refine Exists.intro i (And.intro rfl (Exists.intro _ (And.intro hg2 ?_)))
        rw [hw2]
        refine And.intro (fun h2 => by exfalso; simp at h2) (fun h2 => ?_)
        refine Exists.intro [] (Exists.intro (bs.length - (i + 1)) (And.intro (by omega) ⟨i + 1, by omega, rfl, ?_, rfl⟩))
        rw [hw3, wrap_succ hlt (by omega), hsum, show κ + 1 + (b.banks.length : Int) + 1 + 1 = k + ((S + (b.banks.length + 3) : Nat) : Int) by omega]
      · simp only [decide_eq_false_iff_not, List.length_map, hml] at h1
        have hil : i = bs.length := by omega
        subst hil
        rw [List.take_length]
        exact hp
  · exact hp.elim

/-! ### Layouts -/

def LaV (a : AV) (l : La) : Prop := ∃ b1 z1 b2 z2 b3 z3, a = .agg [.imm b1 z1 4 (l.pls.map plC), .v (.int .i64 l.stack), .imm b2 z2 1 (l.slots.map intC), .v (.int .i64 l.flash), .v (.int .i64 l.ram), .imm b3 z3 1 (l.tgts.map tgsC)]
structure smLa (l : La) : Prop where
  pls : l.pls.length ≤ 1048576
  pl : ∀ p ∈ l.pls, smPl p
  plw : sumW wP l.pls ≤ 1048576
  slots : l.slots.length ≤ 1048576
  tgts : l.tgts.length ≤ 1048576
  tg : ∀ t ∈ l.tgts, smTgs t
  tgw : sumW wT l.tgts ≤ 1048576
def hEqLa : CH := fun args hl K => match args, hl with
  | [a, b], [] => ∃ l, LaV a l ∧ LaV b l ∧ smLa l ∧ K (.v (.bool true)) []
  | _, _ => False
def cx_s_eqLayout : Ctx := mkC [(78, callM [] true hEqPlace), (54, callM [] true hEqInt), (79, callM [] true hEqTargetS)]
theorem cx_s_eqLayout_ok : CtxOk Try.prog cx_s_eqLayout := mkC_ok (mem1 ⟨s_eqPlaceS, fnOk Try.func78 rfl rfl⟩ (mem1 ⟨s_eqIntS, fnOk Try.func54 rfl rfl⟩ (mem1 ⟨s_eqTargetSS, fnOk Try.func79 rfl rfl⟩ mem0)))
set_option maxRecDepth 100000 in
set_option pp.maxSteps 1500 in
set_option maxHeartbeats 4000000 in
theorem s_eqLayout : HSound Try.prog 26 (callM [] true hEqLa) := by
  refine callM_sound cx_s_eqLayout_ok mixed Try.func26 rfl fun args hl K hp => ?_
  unfold hEqLa at hp
  split at hp
  · rename_i a b
    obtain ⟨l, ⟨b1, z1, b2, z2, b3, z3, rfl⟩, ⟨b1', z1', b2', z2', b3', z3', rfl⟩, hb, hp⟩ := hp
    obtain ⟨g1, g2, _, g3, g4, g5, _⟩ := hb
    repeat' ((first
      | refine Exists.intro l.pls (And.intro rfl (And.intro rfl (And.intro g2 (And.intro g1 ?_))))
      | refine Exists.intro l.slots (And.intro rfl (And.intro rfl (And.intro g3 ?_)))
      | refine Exists.intro l.tgts (And.intro rfl (And.intro rfl (And.intro g5 (And.intro g4 ?_))))
      | refine And.intro (fun h => ?_) (fun h => ?_)
      | fail) <;> try first | (exfalso; simp at h; done) | cases h)
    all_goals exact hp
  · exact hp.elim
def markLa (k : Int) (l : La) : La := ⟨mkG wP gP k l.pls, l.stack, marksInt (k + sumW wP l.pls) l.slots.length, l.flash, l.ram, mkG wT gT (k + sumW wP l.pls + l.slots.length) l.tgts⟩
def markWL (l : La) : Int := (sumW wP l.pls : Int) + l.slots.length + (sumW wT l.tgts : Int)
def hMarkLa : CH := fun args hl K => match args, hl with
  | [.agg [.slc 0 0 a _, .v (.int .i64 s), .slc 1 0 b _, .v (.int .i64 f), .v (.int .i64 r), .slc 2 0 c _], .v (.int .i64 k)], [.lst 4 P, .lst 1 S, .lst 1 T] => ∃ l : La, P = l.pls.map plC ∧ S = l.slots.map intC ∧ T = l.tgts.map tgsC ∧ a = l.pls.length ∧ b = l.slots.length ∧ c = l.tgts.length ∧ s = l.stack ∧ f = l.flash ∧ r = l.ram ∧ smLa l ∧ 0 ≤ k ∧ k ≤ 536870912 ∧ K (.v (.int .i64 (k + markWL l))) (laH (markLa k l))
  | _, _ => False
def cx_s_markLayout : Ctx := mkC [(81, callM [.rw] false hMarkPl), (58, callM [.rw] false hMarkInt), (82, callM [.rw] false hMarkTgS)]
theorem cx_s_markLayout_ok : CtxOk Try.prog cx_s_markLayout := mkC_ok (mem1 ⟨s_markPlaceS, fnOk Try.func81 rfl rfl⟩ (mem1 ⟨s_markIntS, fnOk Try.func58 rfl rfl⟩ (mem1 ⟨s_markTargetSS, fnOk Try.func82 rfl rfl⟩ mem0)))
set_option maxRecDepth 100000 in
set_option pp.maxSteps 1500 in
set_option maxHeartbeats 4000000 in
theorem s_markLayout : HSound Try.prog 29 (callM [.ag [.rw, .ro, .rw, .ro, .ro, .rw]] false hMarkLa) := by
  refine callM_sound cx_s_markLayout_ok mixed Try.func29 rfl fun args hl K hp => ?_
  unfold hMarkLa at hp
  split at hp
  · obtain ⟨l, rfl, rfl, rfl, rfl, rfl, rfl, rfl, rfl, rfl, hb, hk0, hk1, hp⟩ := hp
    obtain ⟨g1, g2, gw, g3, g4, g5, gv⟩ := hb
    repeat' (first
      | refine Exists.intro l.pls (And.intro rfl (And.intro rfl (And.intro g1 (And.intro gw (And.intro (by omega) (And.intro (by omega) ?_))))))
      | refine Exists.intro l.slots (And.intro rfl (And.intro rfl (And.intro g3 (And.intro (by omega) (And.intro (by omega) ?_)))))
      | refine Exists.intro l.tgts (And.intro rfl (And.intro rfl (And.intro g4 (And.intro gv (And.intro (by omega) (And.intro (by omega) ?_))))))
      | refine And.intro (closed_Place _) ?_
      | refine And.intro (closed_Int _) ?_
      | refine And.intro (closed_TargetS _) ?_
      | fail)
    try (conv => whnf)
    simp only [markWL, ← Int.add_assoc] at hp
    exact hp
  · exact hp.elim
def hHeldLa : CH := fun args hl K => match args, hl with
  | [a, .v (.int .i64 k)], [] => ∃ l, LaV a (markLa k l) ∧ smLa l ∧ 0 ≤ k ∧ k ≤ 536870912 ∧ K (.v (.int .i64 (k + markWL l))) []
  | _, _ => False
def cx_s_heldLayout : Ctx := mkC [(83, callM [] true hHeldPl), (62, callM [] true hHeldInt), (84, callM [] true hHeldTgS)]
theorem cx_s_heldLayout_ok : CtxOk Try.prog cx_s_heldLayout := mkC_ok (mem1 ⟨s_heldPlaceS, fnOk Try.func83 rfl rfl⟩ (mem1 ⟨s_heldIntS, fnOk Try.func62 rfl rfl⟩ (mem1 ⟨s_heldTargetSS, fnOk Try.func84 rfl rfl⟩ mem0)))
set_option maxRecDepth 100000 in
set_option pp.maxSteps 1500 in
set_option maxHeartbeats 4000000 in
theorem s_heldLayout : HSound Try.prog 30 (callM [] true hHeldLa) := by
  refine callM_sound cx_s_heldLayout_ok mixed Try.func30 rfl fun args hl K hp => ?_
  unfold hHeldLa at hp
  split at hp
  · rename_i a k
    obtain ⟨l, ⟨b1, z1, b2, z2, b3, z3, rfl⟩, hb, hk0, hk1, hp⟩ := hp
    obtain ⟨g1, g2, gw, g3, g4, g5, gv⟩ := hb
    simp only [markWL] at hp
    repeat' ((first
      | refine Exists.intro l.pls (And.intro rfl (And.intro g1 (And.intro gw (And.intro (by omega) (And.intro (by omega) ?_)))))
      | refine Exists.intro l.slots.length (And.intro rfl (And.intro g3 (And.intro (by omega) (And.intro (by omega) ?_))))
      | refine Exists.intro l.tgts (And.intro rfl (And.intro g4 (And.intro gv (And.intro (by omega) (And.intro (by omega) ?_)))))
      | refine And.intro (fun h => ?_) (fun h => ?_)
      | fail) <;> try first | (exfalso; simp at h; omega) | cases h)
    all_goals refine fin_i hp ?_
    all_goals omega
  · exact hp.elim
end Go.Proofs.Ytijjonafmmhhbaa.Ab
