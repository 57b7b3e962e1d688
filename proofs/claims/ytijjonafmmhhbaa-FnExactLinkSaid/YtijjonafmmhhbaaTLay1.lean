/- Targets, lists of targets, places: laid, compared. No condition. -/
import Derived.Test.YtijjonafmmhhbaaTMod2
import Derived.Test.YtijjonafmmhhbaaTInts2
import Derived.Test.YtijjonafmmhhbaaTInts3
namespace Go.Proofs.Ytijjonafmmhhbaa.Ab
set_option linter.unusedVariables false
set_option linter.unusedSimpArgs false

structure Tg where
  mod : Int
  bank : Int
  pos : Int
def tgC (t : Tg) : List AV := [.v (.int .i64 t.mod), .v (.int .i64 t.bank), .v (.int .i64 t.pos)]
/-! ### Target: slices of plain structs (printed by gen/slice.py) -/

def zeroTarget : Tg := ⟨0, 0, 0⟩
theorem closed_Target (bs : List Tg) : ClosedL (bs.map tgC) := by
  intro e he x hx
  obtain ⟨b, _, rfl⟩ := List.mem_map.1 he
  simp [tgC] at hx
  rcases hx with rfl | rfl | rfl <;> rfl
def hConvTarget : CH := fun args hl K => match args, hl with
  | [.agg [.v a0, .v a1, .v a2]], [] => K (.agg [.v a0, .v a1, .v a2]) []
  | _, _ => False
def hToTarget : CH := fun args hl K => match args, hl with
  | [.imm _ _ 3 l], [] => ∃ bs : List Tg, l = bs.map tgC ∧ bs.length ≤ 1048576 ∧ K (.slc 0 0 bs.length false) [.lst 3 (bs.map tgC)]
  | _, _ => False
def cx_iEqTarget : Ctx := mkC []
theorem cx_iEqTarget_ok : CtxOk Try.prog cx_iEqTarget := cx0_ok
def iEqTarget : Handler := inlH cx_iEqTarget Try.f141.ntmps Try.f141.results.toList (Try.f141.body.getD .skip)
theorem s_iEqTarget : HSound Try.prog 141 iEqTarget := inlF cx_iEqTarget_ok mixed Try.func141 rfl
def hEqTarget : CH := fun args hl K => match args, hl with
  | [.imm _ _ 3 l, .imm _ _ 3 r], [] => ∃ bs : List Tg, l = bs.map tgC ∧ r = bs.map tgC ∧ bs.length ≤ 1048576 ∧ K (.v (.bool true)) []
  | _, _ => False
def cx_s_eqTargetS : Ctx := mkC [(141, iEqTarget)]
theorem cx_s_eqTargetS_ok : CtxOk Try.prog cx_s_eqTargetS := mkC_ok (mem1 ⟨s_iEqTarget, fnOk Try.func141 rfl rfl⟩ mem0)
set_option maxRecDepth 100000 in
set_option pp.maxSteps 1500 in
theorem s_eqTargetS : HSound Try.prog 128 (callM [] true hEqTarget) := by
  refine callM_sound cx_s_eqTargetS_ok mixed Try.func128 rfl fun args hl K hp => ?_
  unfold hEqTarget at hp
  split at hp
  · rename_i t z l t' z' r
    obtain ⟨bs, rfl, rfl, hb, hp⟩ := hp
    refine And.intro (fun h1 => ?_) (fun h1 => ?_)
    · simp at h1
    · clear h1
      refine Exists.intro true (Exists.intro [0, 1, 5] (Exists.intro (fun m vs h => ∃ i : Nat, i ≤ bs.length ∧ m = bs.length - i ∧ vs = [.imm t z 3 (bs.map tgC), .imm t' z' 3 (bs.map tgC), .v (.int .i64 i)] ∧ h = []) (And.intro ?_ ?_)))
      · refine Exists.intro [] (Exists.intro bs.length ?_)
        exact ⟨0, by omega, rfl, rfl, rfl⟩
      · intro m vs h hI
        obtain ⟨i, hi, rfl, rfl, rfl⟩ := hI
        refine And.intro (fun h1 => ?_) (fun h1 => ?_)
        · simp only [decide_eq_true_eq, List.length_map] at h1
          have hlt : i < bs.length := by omega
          obtain ⟨b, hbi⟩ : ∃ b, bs[i]? = some b := ⟨_, List.getElem?_eq_getElem hlt⟩
          refine Or.inl ?_
          refine And.intro (show wfB _ = true from by kernel_rfl) ?_
          refine Exists.intro i (And.intro rfl (Exists.intro (tgC b) (And.intro (get_map hbi) ?_)))
          refine Exists.intro i (And.intro rfl (Exists.intro (tgC b) (And.intro (get_map hbi) ?_)))
          apply HeldC.intro
          · repeat' (first | refine And.intro (fun h1 => absurd h1 (by simp; done)) (fun h1 => ?_) | exact And.intro rfl rfl)
          repeat' (first
            | refine And.intro (fun h1 => ?_) (fun h1 => ?_)
            | refine And.intro (Exists.intro i (And.intro rfl (Exists.intro (tgC b) (And.intro (get_map hbi) (And.intro rfl rfl))))) ?_
            | refine And.intro (And.intro rfl rfl) ?_)
          · cases h1
          · refine Exists.intro [] (Exists.intro (bs.length - (i + 1)) (And.intro (by omega) ?_))
            exact ⟨i + 1, by omega, rfl, by rw [wrap_succ hlt (by omega)], rfl⟩
        · exact hp
  · exact hp.elim
/-! ### Target: marked and found again -/

def mkTarget (k : Int) : Tg := ⟨k, k + 1, k + 1 + 1⟩
def marksTarget (k : Int) (n : Nat) : List Tg := (List.range n).map fun i : Nat => mkTarget (k + 3 * (i : Int))
def hMarkTarget : CH := fun args hl K => match args, hl with
  | [.slc 0 0 n _, .v (.int .i64 k)], [.lst 3 L] => ∃ bs : List Tg, L = bs.map tgC ∧ n = bs.length ∧ bs.length ≤ 1048576 ∧ 0 ≤ k ∧ k ≤ 1099511627776 ∧ K (.v (.int .i64 (k + 3 * n))) [.lst 3 ((marksTarget k n).map tgC)]
  | _, _ => False
theorem mark_stepTarget (bs : List Tg) (k : Int) (i : Nat) (h : i < bs.length) : ((marksTarget k i ++ bs.drop i).map tgC).set i (tgC (mkTarget (k + 3 * i))) = (marksTarget k (i + 1) ++ bs.drop (i + 1)).map tgC := by
  have hl : ((marksTarget k i).map tgC).length = i := by simp [marksTarget]
  rw [List.map_append, List.set_append_right _ _ (by omega), hl, Nat.sub_self, List.drop_eq_getElem_cons h, List.map_cons, List.set_cons_zero]
  simp [marksTarget, List.range_succ]
def cx_s_markTargetS : Ctx := mkC []
theorem cx_s_markTargetS_ok : CtxOk Try.prog cx_s_markTargetS := cx0_ok
set_option maxRecDepth 100000 in
set_option pp.maxSteps 1500 in
set_option maxHeartbeats 4000000 in
theorem s_markTargetS : HSound Try.prog 129 (callM [.rw] false hMarkTarget) := by
  refine callM_sound cx_s_markTargetS_ok mixed Try.func129 rfl fun args hl K hp => ?_
  unfold hMarkTarget at hp
  split at hp
  · rename_i n z0 k _
    obtain ⟨bs, rfl, rfl, hb, hk0, hk1, hp⟩ := hp
    refine Exists.intro false (Exists.intro [0, 1, 5] (Exists.intro (fun m vs h => ∃ i : Nat, i ≤ bs.length ∧ m = bs.length - i ∧ (∃ z, vs = [.slc 0 0 bs.length z, .v (.int .i64 (k + 3 * i)), .v (.int .i64 i)]) ∧ h = [.lst 3 ((marksTarget k i ++ bs.drop i).map tgC)]) (And.intro ?_ ?_)))
    · refine Exists.intro bs.length ?_
      exact ⟨0, by omega, rfl, ⟨z0, by simp⟩, rfl⟩
    · intro m vs h hI
      obtain ⟨i, hi, rfl, ⟨z, rfl⟩, rfl⟩ := hI
      refine And.intro (fun h1 => ?_) (fun h1 => ?_)
      · simp only [decide_eq_true_eq] at h1
        have hlt : i < bs.length := by omega
        have hst := mark_stepTarget bs k i hlt
        have hL : ((marksTarget k i ++ bs.drop i).map tgC).length = bs.length := by simp [marksTarget]; omega
        have hg : ((marksTarget k i ++ bs.drop i).map tgC)[0 + i]? = some (tgC bs[i]) := by
          rw [Nat.zero_add, List.getElem?_map, List.getElem?_append_right (by simp [marksTarget]), show i - (marksTarget k i).length = 0 by simp [marksTarget], List.getElem?_drop, Nat.add_zero, List.getElem?_eq_getElem hlt]
          rfl
        generalize (marksTarget k i ++ bs.drop i).map tgC = L at *
        generalize bs[i] = b0 at hg
        have hLi : 0 + i < L.length := by omega
        generalize hκ : k + 3 * (i : Int) = κ at *
        have hκ0 : 0 ≤ κ ∧ κ ≤ 1199511627776 := by omega
        have hw : ∀ x : Int, 0 ≤ x → x ≤ 1200000000000 → IntKind.i64.wrap (x + 1) = x + 1 := fun x _ _ => wrap64 (by omega)
        repeat' (first
          | refine Exists.intro i (And.intro rfl (And.intro hlt ?_))
          | refine Exists.intro _ (And.intro hg (And.intro (by decide) ?_))
          | refine Exists.intro _ (And.intro (get_set (by first | exact hLi | (simp only [List.length_set]; exact hLi))) (And.intro (by decide) ?_))
          | refine And.intro (by decide) ?_)
        refine Exists.intro (bs.length - (i + 1)) (And.intro (by omega) ⟨i + 1, by omega, rfl, ⟨z, ?_⟩, ?_⟩)
        · rw [wrap_succ hlt (by omega), show k + 3 * ((i + 1 : Nat) : Int) = κ + 3 by omega]
          have hw0 := hw (κ) (by omega) (by omega)
          have hw1 := hw (κ + 1) (by omega) (by omega)
          have hw2 := hw (κ + 1 + 1) (by omega) (by omega)
          try simp only [hw0, hw1, hw2]
          simp [Int.add_assoc]
        · rw [← hst]
          simp only [List.set_set, Nat.zero_add]
          have hw0 := hw (κ) (by omega) (by omega)
          have hw1 := hw (κ + 1) (by omega) (by omega)
          have hw2 := hw (κ + 1 + 1) (by omega) (by omega)
          try simp only [hw0, hw1, hw2]
          rfl
      · simp only [decide_eq_false_iff_not] at h1
        have hil : i = bs.length := by omega
        subst hil
        rw [List.drop_length, List.append_nil]
        refine And.intro (closed_Target _) ?_
        exact hp
  · exact hp.elim
def hHeldTarget : CH := fun args hl K => match args, hl with
  | [.imm _ _ 3 L, .v (.int .i64 k)], [] => ∃ n : Nat, L = (marksTarget k n).map tgC ∧ n ≤ 1048576 ∧ 0 ≤ k ∧ k ≤ 1099511627776 ∧ K (.v (.int .i64 (k + 3 * n))) []
  | _, _ => False
theorem marks_getTarget {k : Int} {n i : Nat} (h : i < n) : ((marksTarget k n).map tgC)[i]? = some (tgC (mkTarget (k + 3 * i))) := by
  simp [marksTarget, h]
def cx_s_heldTargetS : Ctx := mkC []
theorem cx_s_heldTargetS_ok : CtxOk Try.prog cx_s_heldTargetS := cx0_ok
set_option maxRecDepth 100000 in
set_option pp.maxSteps 1500 in
set_option maxHeartbeats 4000000 in
theorem s_heldTargetS : HSound Try.prog 130 (callM [] true hHeldTarget) := by
  refine callM_sound cx_s_heldTargetS_ok mixed Try.func130 rfl fun args hl K hp => ?_
  unfold hHeldTarget at hp
  split at hp
  · rename_i t z L k
    obtain ⟨n, rfl, hb, hk0, hk1, hp⟩ := hp
    refine Exists.intro false (Exists.intro [0, 1, 5] (Exists.intro (fun m vs h => ∃ i : Nat, i ≤ n ∧ m = n - i ∧ vs = [.imm t z 3 ((marksTarget k n).map tgC), .v (.int .i64 (k + 3 * i)), .v (.int .i64 i)] ∧ h = []) (And.intro ?_ ?_)))
    · refine Exists.intro n ?_
      exact ⟨0, by omega, rfl, by simp, rfl⟩
    · intro m vs h hI
      obtain ⟨i, hi, rfl, rfl, rfl⟩ := hI
      refine And.intro (fun h1 => ?_) (fun h1 => ?_)
      · have hlt : i < n := by simpa [marksTarget] using h1
        have hg := marks_getTarget (k := k) hlt
        clear h1
        have hc : (marksTarget k n).map tgC = (marksTarget k n).map tgC := rfl
        generalize hκ : k + 3 * (i : Int) = κ at *
        have hκ0 : 0 ≤ κ ∧ κ ≤ 1199511627776 := by omega
        have hw : ∀ x : Int, 0 ≤ x → x ≤ 1200000000000 → IntKind.i64.wrap (x + 1) = x + 1 := fun x _ _ => wrap64 (by omega)
        have hw0 := hw (κ) (by omega) (by omega)
        have hw1 := hw (κ + 1) (by omega) (by omega)
        have hw2 := hw (κ + 1 + 1) (by omega) (by omega)
        repeat' (first
          | refine And.intro (by decide) ?_
          | refine Exists.intro i (And.intro rfl (Exists.intro _ (And.intro hg ?_)))
          | refine And.intro (fun h1 => absurd h1 (by (try simp only [hw0, hw1, hw2]); simp [mkTarget]; done)) (fun h1 => ?_))
        refine Exists.intro (n - (i + 1)) (And.intro (by omega) ⟨i + 1, by omega, rfl, ?_, rfl⟩)
        rw [wrap_succ hlt (by omega), show k + 3 * ((i + 1 : Nat) : Int) = κ + 3 by omega]
        (try simp only [hw0, hw1, hw2])
        simp [Int.add_assoc]
      · have hil : i = n := by simp [marksTarget] at h1; omega
        subst hil
        exact hp
  · exact hp.elim
theorem marks_lenTarget (k : Int) (n : Nat) : ((marksTarget k n).map tgC).length = n := by simp [marksTarget]
theorem marks_lendTarget (k : Int) (n : Nat) : List.take n (List.drop 0 ((marksTarget k n).map tgC)) = (marksTarget k n).map tgC := by rw [List.drop_zero, List.take_of_length_le (by rw [marks_lenTarget]; exact Nat.le_refl _)]

def tgsC (b : List Tg) : List AV := [.sl 3 (b.map tgC)]
def smTgs (b : List Tg) : Prop := b.length ≤ 1048576
/-! ### TargetS: slices whose elements own slices: laid, compared (printed by gen/lists.py) -/

theorem closed_TargetS (bs : List (List Tg)) : ClosedL (bs.map tgsC) := by
  intro e he x hx
  obtain ⟨b, _, rfl⟩ := List.mem_map.1 he
  simp [tgsC] at hx
  rcases hx with rfl <;> rfl
theorem closed_fillTargetS (bs : List (List Tg)) (i k : Nat) : ClosedL ((bs.take i).map tgsC ++ List.replicate k (tgsC [])) := by
  refine closed_app (closed_TargetS _) ?_
  have := closed_TargetS (List.replicate k [])
  simpa using this
def hToTargetS : CH := fun args hl K => match args, hl with
  | [.imm _ _ 1 l], [] => ∃ bs : List (List Tg), l = bs.map tgsC ∧ (∀ b ∈ bs, smTgs b) ∧ bs.length ≤ 1048576 ∧ K (.slc 0 0 bs.length false) [.lst 1 (bs.map tgsC)]
  | _, _ => False
def hEqTargetS : CH := fun args hl K => match args, hl with
  | [.imm _ _ 1 l, .imm _ _ 1 r], [] => ∃ bs : List (List Tg), l = bs.map tgsC ∧ r = bs.map tgsC ∧ (∀ b ∈ bs, smTgs b) ∧ bs.length ≤ 1048576 ∧ K (.v (.bool true)) []
  | _, _ => False
def cx_s_eqTargetSS : Ctx := mkC [(128, callM [] true hEqTarget)]
theorem cx_s_eqTargetSS_ok : CtxOk Try.prog cx_s_eqTargetSS := mkC_ok (mem1 ⟨s_eqTargetS, fnOk Try.func128 rfl rfl⟩ mem0)
set_option maxRecDepth 100000 in
set_option pp.maxSteps 1500 in
set_option maxHeartbeats 4000000 in
theorem s_eqTargetSS : HSound Try.prog 79 (callM [] true hEqTargetS) := by
  refine callM_sound cx_s_eqTargetSS_ok mixed Try.func79 rfl fun args hl K hp => ?_
  unfold hEqTargetS at hp
  split at hp
  · rename_i t z l t' z' r
    obtain ⟨bs, rfl, rfl, hsm, hb, hp⟩ := hp
    refine And.intro (fun h1 => ?_) (fun h1 => ?_)
    · simp at h1
    clear h1
    refine Exists.intro true (Exists.intro [0, 1, 5] (Exists.intro (fun m vs h => ∃ i : Nat, i ≤ bs.length ∧ m = bs.length - i ∧ vs = [.imm t z 1 (bs.map tgsC), .imm t' z' 1 (bs.map tgsC), .v (.int .i64 i)] ∧ h = []) (And.intro ?_ ?_)))
    · refine Exists.intro [] (Exists.intro bs.length ?_)
      exact ⟨0, by omega, rfl, rfl, rfl⟩
    · intro m vs h hI
      obtain ⟨i, hi, rfl, rfl, rfl⟩ := hI
      refine And.intro (fun h1 => ?_) (fun h1 => ?_)
      · simp only [decide_eq_true_eq, List.length_map] at h1
        have hlt : i < bs.length := by omega
        obtain ⟨b, hbi⟩ : ∃ b, bs[i]? = some b := ⟨_, List.getElem?_eq_getElem hlt⟩
        have hbb := hsm b (List.mem_of_getElem? hbi)
        refine Or.inl ?_
        refine And.intro (show wfB _ = true from by kernel_rfl) ?_
        refine Exists.intro i (And.intro rfl (Exists.intro (tgsC b) (And.intro (get_map hbi) ?_)))
        refine Exists.intro i (And.intro rfl (Exists.intro (tgsC b) (And.intro (get_map hbi) ?_)))
        apply HeldC.intro
        · refine Exists.intro b ?_; refine And.intro rfl ?_; refine And.intro rfl ?_; refine And.intro hbb ?_
          exact And.intro rfl rfl
        repeat' (first
          | refine And.intro (fun h1 => ?_) (fun h1 => ?_)
          | refine And.intro (Exists.intro i (And.intro rfl (Exists.intro (tgsC b) (And.intro (get_map hbi) (And.intro rfl rfl))))) ?_
          | refine And.intro (And.intro rfl rfl) ?_)
        · cases h1
        · refine Exists.intro [] (Exists.intro (bs.length - (i + 1)) (And.intro (by omega) ?_))
          exact ⟨i + 1, by omega, rfl, by rw [wrap_succ hlt (by omega)], rfl⟩
      · exact hp
  · exact hp.elim

structure Pl where
  text : Int
  banks : List Int
  data : Int
  size : Int
def plC (p : Pl) : List AV := [.v (.int .i64 p.text), .sl 1 (p.banks.map intC), .v (.int .i64 p.data), .v (.int .i64 p.size)]
def zeroPl : Pl := ⟨0, [], 0, 0⟩
def smPl (p : Pl) : Prop := p.banks.length ≤ 1048576
/-- A place that is read. -/
def PlV (a : AV) (p : Pl) : Prop := ∃ b z, a = .agg [.v (.int .i64 p.text), .imm b z 1 (p.banks.map intC), .v (.int .i64 p.data), .v (.int .i64 p.size)]
def hToPl : CH := fun args hl K => match args, hl with
  | [a], [] => ∃ p, PlV a p ∧ smPl p ∧ K (.agg [.v (.int .i64 p.text), .slc 0 0 p.banks.length false, .v (.int .i64 p.data), .v (.int .i64 p.size)]) [.lst 1 (p.banks.map intC)]
  | _, _ => False
def hEqPl : CH := fun args hl K => match args, hl with
  | [a, b], [] => ∃ p, PlV a p ∧ PlV b p ∧ smPl p ∧ K (.v (.bool true)) []
  | _, _ => False
def cx_s_eqPlace : Ctx := mkC [(54, callM [] true hEqInt)]
theorem cx_s_eqPlace_ok : CtxOk Try.prog cx_s_eqPlace := mkC_ok (mem1 ⟨s_eqIntS, fnOk Try.func54 rfl rfl⟩ mem0)
set_option maxRecDepth 100000 in
set_option pp.maxSteps 1500 in
theorem s_eqPlace : HSound Try.prog 127 (callM [] true hEqPl) := by
  refine callM_sound cx_s_eqPlace_ok mixed Try.func127 rfl fun args hl K hp => ?_
  unfold hEqPl at hp
  split at hp
  · rename_i a b
    obtain ⟨p, ⟨b1, z1, rfl⟩, ⟨b2, z2, rfl⟩, hb, hp⟩ := hp
    repeat' ((first
      | refine Exists.intro p.banks (And.intro rfl (And.intro rfl (And.intro hb ?_)))
      | refine And.intro (fun h => ?_) (fun h => ?_)
      | fail) <;> try first | (exfalso; simp at h; done) | cases h)
    all_goals exact hp
  · exact hp.elim
/-! ### Place: slices whose elements own slices: laid, compared (printed by gen/lists.py) -/

theorem closed_Place (bs : List Pl) : ClosedL (bs.map plC) := by
  intro e he x hx
  obtain ⟨b, _, rfl⟩ := List.mem_map.1 he
  simp [plC] at hx
  rcases hx with rfl | rfl | rfl | rfl <;> rfl
theorem closed_fillPlace (bs : List Pl) (i k : Nat) : ClosedL ((bs.take i).map plC ++ List.replicate k (plC zeroPl)) := by
  refine closed_app (closed_Place _) ?_
  have := closed_Place (List.replicate k zeroPl)
  simpa using this
def hToPlace : CH := fun args hl K => match args, hl with
  | [.imm _ _ 4 l], [] => ∃ bs : List Pl, l = bs.map plC ∧ (∀ b ∈ bs, smPl b) ∧ bs.length ≤ 1048576 ∧ K (.slc 0 0 bs.length false) [.lst 4 (bs.map plC)]
  | _, _ => False
def hEqPlace : CH := fun args hl K => match args, hl with
  | [.imm _ _ 4 l, .imm _ _ 4 r], [] => ∃ bs : List Pl, l = bs.map plC ∧ r = bs.map plC ∧ (∀ b ∈ bs, smPl b) ∧ bs.length ≤ 1048576 ∧ K (.v (.bool true)) []
  | _, _ => False
def cx_s_eqPlaceS : Ctx := mkC [(127, callM [] true hEqPl)]
theorem cx_s_eqPlaceS_ok : CtxOk Try.prog cx_s_eqPlaceS := mkC_ok (mem1 ⟨s_eqPlace, fnOk Try.func127 rfl rfl⟩ mem0)
set_option maxRecDepth 100000 in
set_option pp.maxSteps 1500 in
set_option maxHeartbeats 4000000 in
theorem s_eqPlaceS : HSound Try.prog 78 (callM [] true hEqPlace) := by
  refine callM_sound cx_s_eqPlaceS_ok mixed Try.func78 rfl fun args hl K hp => ?_
  unfold hEqPlace at hp
  split at hp
  · rename_i t z l t' z' r
    obtain ⟨bs, rfl, rfl, hsm, hb, hp⟩ := hp
    refine And.intro (fun h1 => ?_) (fun h1 => ?_)
    · simp at h1
    clear h1
    refine Exists.intro true (Exists.intro [0, 1, 5] (Exists.intro (fun m vs h => ∃ i : Nat, i ≤ bs.length ∧ m = bs.length - i ∧ vs = [.imm t z 4 (bs.map plC), .imm t' z' 4 (bs.map plC), .v (.int .i64 i)] ∧ h = []) (And.intro ?_ ?_)))
    · refine Exists.intro [] (Exists.intro bs.length ?_)
      exact ⟨0, by omega, rfl, rfl, rfl⟩
    · intro m vs h hI
      obtain ⟨i, hi, rfl, rfl, rfl⟩ := hI
      refine And.intro (fun h1 => ?_) (fun h1 => ?_)
      · simp only [decide_eq_true_eq, List.length_map] at h1
        have hlt : i < bs.length := by omega
        obtain ⟨b, hbi⟩ : ∃ b, bs[i]? = some b := ⟨_, List.getElem?_eq_getElem hlt⟩
        have hbb := hsm b (List.mem_of_getElem? hbi)
        refine Or.inl ?_
        refine And.intro (show wfB _ = true from by kernel_rfl) ?_
        refine Exists.intro i (And.intro rfl (Exists.intro (plC b) (And.intro (get_map hbi) ?_)))
        refine Exists.intro i (And.intro rfl (Exists.intro (plC b) (And.intro (get_map hbi) ?_)))
        apply HeldC.intro
        · refine Exists.intro b ?_; refine And.intro ⟨_, _, rfl⟩ ?_; refine And.intro ⟨_, _, rfl⟩ ?_; refine And.intro hbb ?_
          exact And.intro rfl rfl
        repeat' (first
          | refine And.intro (fun h1 => ?_) (fun h1 => ?_)
          | refine And.intro (Exists.intro i (And.intro rfl (Exists.intro (plC b) (And.intro (get_map hbi) (And.intro rfl rfl))))) ?_
          | refine And.intro (And.intro rfl rfl) ?_)
        · cases h1
        · refine Exists.intro [] (Exists.intro (bs.length - (i + 1)) (And.intro (by omega) ?_))
          exact ⟨i + 1, by omega, rfl, by rw [wrap_succ hlt (by omega)], rfl⟩
      · exact hp
  · exact hp.elim

end Go.Proofs.Ytijjonafmmhhbaa.Ab
