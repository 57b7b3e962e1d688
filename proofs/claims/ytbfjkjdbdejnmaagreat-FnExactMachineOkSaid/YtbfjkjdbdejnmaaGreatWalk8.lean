/- Functions walked, part 8. No condition. -/
import Derived.Test.YtbfjkjdbdejnmaaGreatWalk7
import Derived.Test.YtbfjkjdbdejnmaaGreatWalk6
set_option linter.unusedVariables false
set_option linter.unusedSimpArgs false
/- Link of impl: the layout. No condition. -/
namespace Go.Proofs.YtbfjkjdbdejnmaaGreat.Ab
set_option linter.unusedVariables false
set_option linter.unusedSimpArgs false

def laP (ms : List Mo) (c : Cf) : La := { laF ms c with tgts := [] }
def hPlaced : CH := fun args hl K => match args, hl with
  | [.imm _ _ 8 L, .agg [.v (.int .i64 a), .v (.int .i64 b), .v (.int .i64 c), .v (.int .i64 d)]], [] => ∃ ms : List Mo, L = ms.map moC ∧ (∀ m ∈ ms, smMo m) ∧ Sound ms ⟨a, b, c, d⟩ ∧ K (laR (laP ms ⟨a, b, c, d⟩)) (laH (laP ms ⟨a, b, c, d⟩))
  | _, _ => False
theorem moSz_id (m : Mo) : rup (moSz m) = moSz m := rup_id (rup_mod _)
def cx_s_placed : Ctx := mkC [(201, callM [] false hNewAl), (203, callM [] false hNewAl), (205, callM [.rw] true hPlaceL), (116, callM [] false hRup), (206, callM [.rw] true hPlaceN), (207, callM [.rw] false hUsed), (208, callM [.rw] false hUsed), (202, callM [] true hLenF), (204, callM [] false hIdF)]
theorem cx_s_placed_ok : CtxOk Tryz.prog cx_s_placed := mkC_ok (mem1 ⟨s_newAl1, fnOk Tryz.func201 rfl rfl⟩ (mem1 ⟨s_newAl2, fnOk Tryz.func203 rfl rfl⟩ (mem1 ⟨s_place1, fnOk Tryz.func205 rfl rfl⟩ (mem1 ⟨s_roundUp, fnOk Tryz.func116 rfl rfl⟩ (mem1 ⟨s_place2, fnOk Tryz.func206 rfl rfl⟩ (mem1 ⟨s_used1, fnOk Tryz.func207 rfl rfl⟩ (mem1 ⟨s_used2, fnOk Tryz.func208 rfl rfl⟩ (mem1 ⟨s_placed1, fnOk Tryz.func202 rfl rfl⟩ (mem1 ⟨s_placed2, fnOk Tryz.func204 rfl rfl⟩ mem0)))))))))
set_option maxRecDepth 100000 in
set_option pp.maxSteps 1500 in
set_option maxHeartbeats 16000000 in
theorem s_placed : HSound Tryz.prog 148 (callM [] true hPlaced) := by
  refine callM_sound cx_s_placed_ok mixed Tryz.func148 rfl fun args hl K hp => ?_
  unfold hPlaced at hp
  split at hp
  · rename_i t z L a b c d
    obtain ⟨ms, rfl, hsm, hS, hp⟩ := hp
    obtain ⟨⟨ca0, ca1, cb0, cb1, cc0, cc1, ccm⟩, ⟨ln0, ln1⟩, hgm, _⟩ := hS
    simp only at ca0 ca1 cb0 cb1 cc0 cc1 ccm
    refine Exists.intro true (Exists.intro [0, 3, 4, 5, 6, 7, 15, 16, 17] (Exists.intro (fun n vs h => ∃ i : Nat, i ≤ ms.length ∧ n = ms.length - i ∧ vs = [.imm t z 8 (ms.map moC), .ptr 0 0 0 4, .ptr 1 0 0 6, .ptr 2 0 0 3, .ptr 3 0 0 3, .ptr 4 0 0 6, .imm t z 8 (ms.map moC), .v (.int .i64 ms.length), .v (.int .i64 i)] ∧
      h = [.box [.v (.int .i64 a), .v (.int .i64 b), .v (.int .i64 c), .v (.int .i64 d)], .box [.sl 4 [], .v (.int .i64 0), .sl 1 [], .v (.int .i64 0), .v (.int .i64 0), .sl 1 []],
        .box [.v (.int .i64 0), .v (.int .i64 (plP ms i).2.1), .fn 202 []], .box [.v (.int .i64 65536), .v (.int .i64 ((65536 + (plP ms i).2.2 : Nat) : Int)), .fn 204 []],
        .box [.sl 4 ((plP ms i).1.map plC), .v (.int .i64 0), .sl 1 [], .v (.int .i64 0), .v (.int .i64 0), .sl 1 []]]) (And.intro ?_ ?_)))
    · refine Exists.intro [] ?_
      repeat' (first
        | refine Exists.intro _ (And.intro rfl (And.intro rfl (And.intro closed_nil ?_)))
        | fail)
      refine Exists.intro ms.length ⟨0, by omega, rfl, ?_, rfl⟩
      rw [List.length_map]
      rfl
    intro n vs h hI
    obtain ⟨i, hi, rfl, rfl, rfl⟩ := hI
    refine And.intro (fun h1 => ?_) (fun h1 => ?_)
    · have h1 := of_decide_eq_true h1
      have hlt : i < ms.length := by omega
      obtain ⟨m, hm⟩ : ∃ m, ms[i]? = some m := ⟨_, List.getElem?_eq_getElem hlt⟩
      have hmm := hsm m (List.mem_of_getElem? hm)
      have g := hgm m (List.mem_of_getElem? hm)
      have gl := g.dl
      have gb := g.bss
      have gt := g.tl
      have hst := plP_at hm
      obtain ⟨pb1, pb2⟩ := plP_le hgm i
      have pl := plP_len (ms := ms) (i := i) (by omega)
      generalize hQ : plP ms i = Q at *
      obtain ⟨PL, f, r⟩ := Q
      simp only at *
      have hrt := rup_le (4 * m.text.length)
      refine Exists.intro i (And.intro rfl (Exists.intro (moC m) (And.intro (get_map hm) ?_)))
      refine And.intro rfl (Exists.intro f (And.intro rfl (And.intro (by omega) (And.intro (by rw [List.length_map]; omega) ?_))))
      have hf1 : f + rup (4 * m.text.length) ≤ 20000 := by omega
      have hbk := fun b hb => (g.bk b hb).1
      have hbn := g.bl
      have hF1' : rup (4 * (m.text.map intC).length) = rup (4 * m.text.length) := by rw [List.length_map]
      generalize hF1 : f + rup (4 * m.text.length) = f1 at *
      refine Exists.intro true (Exists.intro [0, 3, 4, 5, 6, 7, 9, 10, 15, 16, 17, 33, 34, 35] (Exists.intro (fun n vs h => ∃ j : Nat, j ≤ m.banks.length ∧ n = m.banks.length - j ∧ vs = [.imm t z 8 (ms.map moC), .ptr 0 0 0 4, .ptr 1 0 0 6, .ptr 2 0 0 3, .ptr 3 0 0 3, .ptr 4 0 0 6, .iptr t (moC m), .ptr 5 0 0 4, .imm t z 8 (ms.map moC), .v (.int .i64 ms.length), .v (.int .i64 i), .imm t false 1 (m.banks.map bankC), .v (.int .i64 m.banks.length), .v (.int .i64 j)] ∧
        h = [.box [.v (.int .i64 a), .v (.int .i64 b), .v (.int .i64 c), .v (.int .i64 d)], .box [.sl 4 [], .v (.int .i64 0), .sl 1 [], .v (.int .i64 0), .v (.int .i64 0), .sl 1 []],
          .box [.v (.int .i64 0), .v (.int .i64 (bkP m.banks f1 j).2), .fn 202 []], .box [.v (.int .i64 65536), .v (.int .i64 ((65536 + r : Nat) : Int)), .fn 204 []],
          .box [.sl 4 (PL.map plC), .v (.int .i64 0), .sl 1 [], .v (.int .i64 0), .v (.int .i64 0), .sl 1 []],
          .box [.v (.int .i64 f), .sl 1 ((bkP m.banks f1 j).1.map intC), .v (.int .i64 0), .v (.int .i64 0)]]) (And.intro ?_ ?_)))
      · refine Exists.intro [] ?_
        repeat' (first
          | refine Exists.intro _ (And.intro rfl (And.intro rfl (And.intro closed_nil ?_)))
          | fail)
        exact Exists.intro m.banks.length ⟨0, by omega, rfl, by rw [List.length_map]; rfl, by rw [hF1', hF1]; rfl⟩
      · intro n vs h hI
        obtain ⟨j, hj, rfl, rfl, rfl⟩ := hI
        refine And.intro (fun h2 => ?_) (fun h2 => ?_)
        · have h2 := of_decide_eq_true h2
          have hjl : j < m.banks.length := by omega
          obtain ⟨x, hx⟩ : ∃ x, m.banks[j]? = some x := ⟨_, List.getElem?_eq_getElem hjl⟩
          have hxl := hbk x (List.mem_of_getElem? hx)
          have hble := bkP_le hbk f1 j
          have hbl := bkP_len m.banks f1 hj
          have hbs := bkP_at m.banks f1 hx
          have hrx := rup_le (4 * x.length)
          generalize bkP m.banks f1 j = B at *
          obtain ⟨bl, bf⟩ := B
          simp only at *
          have hxm : (x.map intC).length ≤ 1048576 := by rw [List.length_map]; omega
          have hbf : bf ≤ 1048576 := by omega
          refine Exists.intro j (And.intro rfl (Exists.intro (bankC x) (And.intro (get_map hx) ?_)))
          refine Or.inl ?_
          refine And.intro (show wfB _ = true from by kernel_rfl) ?_
          repeat' (first
            | (refine And.intro rfl ?_; refine Exists.intro bf ?_; refine And.intro rfl ?_; refine And.intro hbf ?_; refine And.intro hxm ?_; exact And.intro rfl rfl)
            | (refine Exists.intro [intC (bf : Int)] ?_; refine And.intro rfl ?_; refine And.intro rfl ?_; refine And.intro (int_notSl1 [_]) ?_; refine And.intro rfl ?_; refine And.intro (by simp; omega) ?_; refine And.intro (by simp; omega) ?_; exact And.intro rfl rfl)
            | refine And.intro (show wfB _ = true from by kernel_rfl) ?_ | refine And.intro (And.intro rfl rfl) ?_ | exact And.intro rfl rfl | apply HeldC.intro | exact AV.top | (apply HeldF.intro; refine Exists.intro _ (And.intro (by assumption) ?_); refine And.intro (by decide) ?_; exact And.intro rfl rfl) | (refine And.intro (by (refine Exists.intro _ (And.intro (by assumption) ?_); refine And.intro (by decide) ?_; exact And.intro rfl rfl)) ?_) | refine Or.inl ?_
            | refine And.intro ?_ ?_
            | fail)
          refine Exists.intro [] ?_
          repeat' (first
            | refine Exists.intro _ (And.intro List.take_length (And.intro rfl (And.intro (closed_Place _) ?_)))
            | refine Exists.intro _ (And.intro (takeA _ _) (And.intro List.length_append (And.intro (closed_app (closed_Int bl) (closed_Int [_])) ?_)))
            | refine Exists.intro _ (And.intro rfl (And.intro rfl (And.intro closed_nil ?_)))
            | fail)
          refine Exists.intro (m.banks.length - (j + 1)) (And.intro (by omega) ⟨j + 1, by omega, rfl, ?_, ?_⟩)
          · rw [wrap_succ hjl (by omega)]
          · rw [hbs, List.length_map]
            simp only [List.map_append]
            rfl
        · have h2 := of_decide_eq_false h2
          have hjj : j = m.banks.length := by omega
          subst hjj
          have hble := bkP_le hbk f1 m.banks.length
          have hbl := bkP_len m.banks f1 (Nat.le_refl m.banks.length)
          generalize bkP m.banks f1 m.banks.length = B at *
          obtain ⟨bl, bf⟩ := B
          simp only at *
          have hmz := rup_le (m.data.length + m.bss.toNat)
          have hwbs : IntKind.i64.wrap (((m.data.map byteC).length : Int) + m.bss) = ((m.data.length + m.bss.toNat : Nat) : Int) := by rw [List.length_map, wrap64 (by omega)]; omega
          have hm1 : m.data.length + m.bss.toNat ≤ 1099511627776 := by omega
          have hr2 : 65536 + r ≤ 1048576 := by omega
          have hms : moSz m ≤ 1048576 := by unfold moSz; omega
          have hid := moSz_id m
          refine Or.inl ?_
          refine And.intro (show wfB _ = true from by kernel_rfl) ?_
          repeat' (first
            | (refine Exists.intro (m.data.length + m.bss.toNat) ?_; refine And.intro hwbs ?_; refine And.intro hm1 ?_; exact And.intro rfl rfl)
            | refine And.intro (show wfB _ = true from by kernel_rfl) ?_ | refine And.intro (And.intro rfl rfl) ?_ | exact And.intro rfl rfl | apply HeldC.intro | exact AV.top | (apply HeldF.intro; refine Exists.intro _ (And.intro (by assumption) ?_); refine And.intro (by decide) ?_; exact And.intro rfl rfl) | (refine And.intro (by (refine Exists.intro _ (And.intro (by assumption) ?_); refine And.intro (by decide) ?_; exact And.intro rfl rfl)) ?_) | refine Or.inl ?_
            | refine And.intro ?_ ?_
            | fail)
          all_goals try exact rfl
          refine Exists.intro (65536 + r) (Exists.intro (moSz m) (And.intro rfl (And.intro rfl (And.intro hr2 (And.intro hms ?_)))))
          all_goals repeat' (first
            | refine Exists.intro _ (And.intro List.take_length (And.intro rfl (And.intro (closed_Int _) ?_)))
            | refine Exists.intro _ (And.intro (lendD _ _) (And.intro (List.length_map _) (And.intro (closed_Target _) ?_)))
            | refine And.intro rfl (And.intro rfl (And.intro (by simp; omega) (And.intro (by simp; omega) ?_)))
            | refine And.intro (closed_Place [⟨f, bl, ((65536 + r : Nat) : Int), moSz m⟩]) ?_
            | fail)
          refine Exists.intro [] ?_
          have hst2 : plP ms (i + 1) = (PL ++ [⟨f, bl, 65536 + (r : Int), moSz m⟩], bf, r + moSz m) := hst
          have ecst : ((65536 + r : Nat) : Int) = 65536 + (r : Int) := by omega
          repeat' (first
            | refine Exists.intro _ (And.intro (takeA _ _) (And.intro List.length_append (And.intro (closed_app (closed_Place PL) (closed_Place [⟨f, bl, ((65536 + r : Nat) : Int), moSz m⟩])) ?_)))
            | refine Exists.intro _ (And.intro rfl (And.intro rfl (And.intro closed_nil ?_)))
            | fail)
          refine Exists.intro (ms.length - (i + 1)) (And.intro (by omega) ⟨i + 1, by omega, rfl, ?_, ?_⟩)
          · rw [wrap_succ hlt (by omega)]
          · rw [hst2, hid, ← ecst, show 65536 + (r + moSz m) = 65536 + r + moSz m by omega]
            simp only [List.map_append]
            rfl
    · have h1 := of_decide_eq_false h1
      have hil : i = ms.length := by omega
      subst hil
      obtain ⟨pb1, pb2⟩ := plP_le hgm ms.length
      have prm := plP_ram ms ms.length
      have pl := plP_len (ms := ms) (i := ms.length) (Nat.le_refl _)
      have eL : laP ms ⟨a, b, c, d⟩ = ⟨(plP ms ms.length).1, 65536 + ((plP ms ms.length).2.2 : Int), (slP b.toNat ((plP ms ms.length).2.2 + c.toNat) a.toNat).1, (plP ms ms.length).2.1, (slP b.toNat ((plP ms ms.length).2.2 + c.toNat) a.toNat).2, []⟩ := rfl
      rw [eL] at hp
      clear eL
      generalize plP ms ms.length = Q at *
      obtain ⟨PL, f, r⟩ := Q
      simp only at *
      obtain ⟨A, rfl⟩ := Int.eq_ofNat_of_zero_le ca0
      obtain ⟨W, rfl⟩ := Int.eq_ofNat_of_zero_le (show 0 ≤ b by omega)
      obtain ⟨S, rfl⟩ := Int.eq_ofNat_of_zero_le cc0
      simp only [Int.toNat_natCast] at hp
      have hS32 : S % 32 = 0 := by
        rw [Int.tmod_eq_emod_of_nonneg (by omega)] at ccm
        omega
      have hrS : rup S = S := rup_id hS32
      refine And.intro rfl (Exists.intro (65536 + r) (Exists.intro S (And.intro rfl (And.intro rfl (And.intro (by omega) (And.intro (by omega) ?_))))))
      have hw3 : IntKind.i64.wrap (4 * (W : Int)) = ((4 * W : Nat) : Int) := by rw [wrap64 (by omega)]; omega
      have hrw := rup_le (4 * W)
      have hr1b : r + S ≤ 10000 := by omega
      have hr1 : 65536 + r + S = 65536 + (r + S) := by omega
      generalize hr2 : r + S = r1 at *
      refine Exists.intro true (Exists.intro [3, 4, 5, 6, 7, 78, 79] (Exists.intro (fun n vs h => ∃ k : Nat, k ≤ A ∧ n = A - k ∧ vs = [.ptr 0 0 0 4, .ptr 1 0 0 6, .ptr 2 0 0 3, .ptr 3 0 0 3, .ptr 4 0 0 6, .v (.int .i64 A), .v (.int .i64 k)] ∧
        h = [.box [.v (.int .i64 A), .v (.int .i64 W), .v (.int .i64 S), .v (.int .i64 d)], .box [.sl 4 [], .v (.int .i64 0), .sl 1 [], .v (.int .i64 0), .v (.int .i64 0), .sl 1 []],
          .box [.v (.int .i64 0), .v (.int .i64 f), .fn 202 []], .box [.v (.int .i64 65536), .v (.int .i64 ((65536 + (slP W r1 k).2 : Nat) : Int)), .fn 204 []],
          .box [.sl 4 (PL.map plC), .v (.int .i64 (65536 + (r : Int))), .sl 1 ((slP W r1 k).1.map intC), .v (.int .i64 0), .v (.int .i64 0), .sl 1 []]]) (And.intro ?_ ?_)))
      · refine Exists.intro [] ?_
        repeat' (first
          | refine Exists.intro _ (And.intro List.take_length (And.intro rfl (And.intro (closed_Place _) ?_)))
          | refine Exists.intro _ (And.intro rfl (And.intro rfl (And.intro closed_nil ?_)))
          | fail)
        refine Exists.intro A ⟨0, by omega, rfl, rfl, ?_⟩
        rw [hrS, hr1, show ((65536 + r : Nat) : Int) = 65536 + (r : Int) by omega]
        rfl
      · intro n vs h hI
        obtain ⟨k, hk, rfl, rfl, rfl⟩ := hI
        refine And.intro (fun h2 => ?_) (fun h2 => ?_)
        · have h2 := of_decide_eq_true h2
          have hkl : k < A := by omega
          have hsl := slP_len W r1 k
          have hsp := slP_le (w := W) (by omega) r1 k
          have hss : slP W r1 (k + 1) = ((slP W r1 k).1 ++ [65536 + ((slP W r1 k).2 : Int)], (slP W r1 k).2 + rup (4 * W)) := rfl
          generalize slP W r1 k = B at *
          obtain ⟨sl, sr⟩ := B
          simp only at *
          have hsr : 65536 + sr ≤ 1048576 := by omega
          have h4w : 4 * W ≤ 1048576 := by omega
          refine Or.inl ?_
          refine And.intro (show wfB _ = true from by kernel_rfl) ?_
          repeat' (first
            | (refine And.intro rfl ?_; refine Exists.intro (65536 + sr) ?_; refine Exists.intro (4 * W) ?_; refine And.intro rfl ?_; refine And.intro hw3 ?_; refine And.intro hsr ?_; refine And.intro h4w ?_; exact And.intro rfl rfl)
            | (refine Exists.intro [intC ((65536 + sr : Nat) : Int)] ?_; refine And.intro rfl ?_; refine And.intro rfl ?_; refine And.intro (int_notSl1 [_]) ?_; refine And.intro rfl ?_; refine And.intro (by simp; omega) ?_; refine And.intro (by simp; omega) ?_; exact And.intro rfl rfl)
            | refine And.intro (show wfB _ = true from by kernel_rfl) ?_ | refine And.intro (And.intro rfl rfl) ?_ | exact And.intro rfl rfl | apply HeldC.intro | exact AV.top | (apply HeldF.intro; refine Exists.intro _ (And.intro (by assumption) ?_); refine And.intro (by decide) ?_; exact And.intro rfl rfl) | (refine And.intro (by (refine Exists.intro _ (And.intro (by assumption) ?_); refine And.intro (by decide) ?_; exact And.intro rfl rfl)) ?_) | refine Or.inl ?_
            | refine And.intro ?_ ?_
            | fail)
          refine Exists.intro [] ?_
          repeat' (first
            | refine Exists.intro _ (And.intro List.take_length (And.intro rfl (And.intro (closed_Place _) ?_)))
            | refine Exists.intro _ (And.intro (takeA _ _) (And.intro List.length_append (And.intro (closed_app (closed_Int sl) (closed_Int [_])) ?_)))
            | refine Exists.intro _ (And.intro rfl (And.intro rfl (And.intro closed_nil ?_)))
            | fail)
          refine Exists.intro (A - (k + 1)) (And.intro (by omega) ⟨k + 1, by omega, rfl, ?_, ?_⟩)
          · rw [wrap_succ hkl (by omega)]
          · rw [hss, show ((65536 + sr : Nat) : Int) = 65536 + (sr : Int) by omega, show 65536 + (sr + rup (4 * W)) = 65536 + sr + rup (4 * W) by omega]
            simp only [List.map_append]
            rfl
        · have h2 := of_decide_eq_false h2
          have hkA : k = A := by omega
          subst hkA
          have hsp := slP_le (w := W) (by omega) r1 k
          generalize slP W r1 k = B at *
          obtain ⟨sl, sr⟩ := B
          simp only at *
          repeat' (first
            | refine And.intro (show I64 _ by simp only [I64]; omega) ?_
            | refine And.intro (closed_Place _) ?_
            | refine And.intro (closed_TargetS _) ?_
            | refine And.intro (closed_Int _) ?_
            | refine And.intro closed_nil ?_
            | fail)
          try (conv => whnf)
          simp only [List.length_map]
          rw [show (f : Int) - 0 = f by omega, show ((65536 + sr : Nat) : Int) - 65536 = sr by omega]
          exact hp
  · exact hp.elim
end Go.Proofs.YtbfjkjdbdejnmaaGreat.Ab

/- Link of impl, whole. No condition. -/
namespace Go.Proofs.YtbfjkjdbdejnmaaGreat.Ab
set_option linter.unusedVariables false
set_option linter.unusedSimpArgs false

theorem laP_laF (ms : List Mo) (c : Cf) : laF ms c = { laP ms c with tgts := ms.map fun m => tgsOf ms m.imps } := rfl
def cx_s_impl_Link : Ctx := mkC [(145, callM [] false hCfg), (146, callM [] true hModOk), (147, callM [] false hNames), (148, callM [] true hPlaced)]
theorem cx_s_impl_Link_ok : CtxOk Tryz.prog cx_s_impl_Link := mkC_ok (mem1 ⟨s_impl_ConfigOk, fnOk Tryz.func145 rfl rfl⟩ (mem1 ⟨s_impl_ModuleOk, fnOk Tryz.func146 rfl rfl⟩ (mem1 ⟨s_namesOf, fnOk Tryz.func147 rfl rfl⟩ (mem1 ⟨s_placed, fnOk Tryz.func148 rfl rfl⟩ mem0))))
set_option maxRecDepth 100000 in
set_option pp.maxSteps 1500 in
set_option maxHeartbeats 16000000 in
theorem s_impl_Link : HSound Tryz.prog 102 (callM [] true hLink) := by
  refine callM_sound cx_s_impl_Link_ok mixed Tryz.func102 rfl fun args hl K hp => ?_
  unfold hLink at hp
  split at hp
  · rename_i t z L a b c d
    obtain ⟨ms, rfl, hlen, hsm, hp⟩ := hp
    refine And.intro (fun h1 => ?_) (fun h1 => ?_)
    · have h1 : cfgB ⟨a, b, c, d⟩ = false := by simpa using h1
      have e : linkC ms ⟨a, b, c, d⟩ = 1 := by simp only [linkC, soundF, h1, if_true]; rfl
      have hp2 := fin_k hp e (by decide)
      refine And.intro closed_nil (And.intro closed_nil (And.intro closed_nil ?_))
      exact hp2
    have e1 : cfgB ⟨a, b, c, d⟩ = true := by simpa using h1
    clear h1
    have fS : ∀ n, soundF ms ⟨a, b, c, d⟩ = n → n ≠ 0 → linkC ms ⟨a, b, c, d⟩ = n := fun n h h0 => by rw [linkC, if_pos (by rw [h]; exact h0), h]
    have f2 : decide (1 ≤ ms.length ∧ ms.length ≤ 4) = false → soundF ms ⟨a, b, c, d⟩ = 2 := fun h => by simp only [soundF, e1, h, Bool.true_eq_false, if_true, if_false]
    repeat' ((first | refine And.intro (fun h1 => ?_) (fun h1 => ?_) | refine And.intro (by decide) ?_ | refine And.intro (show wfB _ = true from by kernel_rfl) ?_ | refine And.intro (And.intro rfl rfl) ?_ | exact And.intro rfl rfl | apply HeldC.intro | exact AV.top | (apply HeldF.intro; refine Exists.intro _ (And.intro (by assumption) ?_); refine And.intro (by decide) ?_; exact And.intro rfl rfl) | (refine And.intro (by (refine Exists.intro _ (And.intro (by assumption) ?_); refine And.intro (by decide) ?_; exact And.intro rfl rfl)) ?_) | refine Or.inl ?_) <;> try cases h1)
    · have h1 := of_decide_eq_true h1
      rw [List.length_map] at h1
      have hp2 := fin_k hp (fS 2 (f2 (decide_eq_false (by omega))) (by decide)) (by decide)
      refine And.intro closed_nil (And.intro closed_nil (And.intro closed_nil ?_))
      exact hp2
    · have h1 := of_decide_eq_true h1
      rw [List.length_map] at h1
      have hp2 := fin_k hp (fS 2 (f2 (decide_eq_false (by omega))) (by decide)) (by decide)
      refine And.intro closed_nil (And.intro closed_nil (And.intro closed_nil ?_))
      exact hp2
    rename_i h0
    have h0 := of_decide_eq_false h0
    have h1 := of_decide_eq_false h1
    rw [List.length_map] at h0 h1
    have e2 : decide (1 ≤ ms.length ∧ ms.length ≤ 4) = true := decide_eq_true (by omega)
    clear f2
    have f3 : ms.all (fun m => decide (modOk m = 0)) = false → soundF ms ⟨a, b, c, d⟩ = 3 := fun h => by simp only [soundF, e1, e2, h, Bool.true_eq_false, if_true, if_false]
    refine Exists.intro true (Exists.intro [0, 3, 4, 40, 41, 42] (Exists.intro (fun n vs h => ∃ i : Nat, i ≤ ms.length ∧ n = ms.length - i ∧ (ms.take i).all (fun m => decide (modOk m = 0)) = true ∧ vs = [.imm t z 8 (ms.map moC), .ptr 0 0 0 4, .ptr 1 0 0 6, .imm t z 8 (ms.map moC), .v (.int .i64 ms.length), .v (.int .i64 i)] ∧
      h = [.box [.v (.int .i64 a), .v (.int .i64 b), .v (.int .i64 c), .v (.int .i64 d)], .box [.sl 4 [], .v (.int .i64 0), .sl 1 [], .v (.int .i64 0), .v (.int .i64 0), .sl 1 []]]) (And.intro ?_ ?_)))
    · refine Exists.intro [] ?_
      repeat' (first
        | refine Exists.intro _ (And.intro rfl (And.intro rfl (And.intro closed_nil ?_)))
        | fail)
      exact Exists.intro ms.length ⟨0, by omega, rfl, rfl, by rw [List.length_map]; rfl, rfl⟩
    intro n vs h hI
    obtain ⟨i, hi, rfl, hall, rfl, rfl⟩ := hI
    refine And.intro (fun h2 => ?_) (fun h2 => ?_)
    · have h2 := of_decide_eq_true h2
      have hlt : i < ms.length := by omega
      obtain ⟨m, hm⟩ : ∃ m, ms[i]? = some m := ⟨_, List.getElem?_eq_getElem hlt⟩
      refine Exists.intro i (And.intro rfl (Exists.intro (moC m) (And.intro (get_map hm) ?_)))
      refine Exists.intro m (And.intro ⟨_, _, _, _, _, _, _, _, _, _, _, _, rfl⟩ (And.intro (hsm m (List.mem_of_getElem? hm)) ?_))
      refine And.intro (fun h3 => ?_) (fun h3 => ?_)
      · have h3 : ¬ modOk m = 0 := by simpa using h3
        have hp2 := fin_k hp (fS 3 (f3 (all_bad hm (decide_eq_false h3))) (by decide)) (by decide)
        refine And.intro closed_nil (And.intro closed_nil (And.intro closed_nil ?_))
        exact hp2
      · have h3 : modOk m = 0 := by simpa using h3
        refine Exists.intro [] ?_
        repeat' (first
          | refine Exists.intro _ (And.intro rfl (And.intro rfl (And.intro closed_nil ?_)))
          | fail)
        refine Exists.intro (ms.length - (i + 1)) (And.intro (by omega) ⟨i + 1, by omega, rfl, all_take hm hall (decide_eq_true h3), ?_, rfl⟩)
        rw [wrap_succ hlt (by omega)]
    have h2 := of_decide_eq_false h2
    rw [List.take_of_length_le (by omega)] at hall
    clear f3
    have f4 : (List.range ms.length).all (newB ms) = false → soundF ms ⟨a, b, c, d⟩ = 4 := fun h => by simp only [soundF, e1, e2, hall, h, Bool.true_eq_false, if_true, if_false]
    refine Exists.intro true (Exists.intro [0, 3, 4, 8, 52, 53, 54] (Exists.intro (fun n vs h => ∃ (i : Nat) (S : List (MK × Value)), i ≤ ms.length ∧ n = ms.length - i ∧ (∀ k < i, newB ms k = true) ∧ (∀ q, mapFind (.s q) S = match seenB ms i q with | true => some (.bool true) | false => none) ∧ vs = [.imm t z 8 (ms.map moC), .ptr 0 0 0 4, .ptr 1 0 0 6, .mapr 2, .imm t z 8 (ms.map moC), .v (.int .i64 ms.length), .v (.int .i64 i)] ∧
      h = [.box [.v (.int .i64 a), .v (.int .i64 b), .v (.int .i64 c), .v (.int .i64 d)], .box [.sl 4 [], .v (.int .i64 0), .sl 1 [], .v (.int .i64 0), .v (.int .i64 0), .sl 1 []], .mp 0 S]) (And.intro ?_ ?_)))
    · refine Exists.intro [] ?_
      repeat' (first
        | refine Exists.intro _ (And.intro rfl (And.intro rfl (And.intro closed_nil ?_)))
        | fail)
      exact Exists.intro ms.length ⟨0, [], by omega, rfl, fun k hk => by omega, fun q => rfl, by rw [List.length_map]; rfl, rfl⟩
    intro n vs h hI
    obtain ⟨i, S, hi, rfl, hnew, hS, rfl, rfl⟩ := hI
    refine And.intro (fun h2 => ?_) (fun h2 => ?_)
    · have h2 := of_decide_eq_true h2
      have hlt : i < ms.length := by omega
      obtain ⟨m, hm⟩ : ∃ m, ms[i]? = some m := ⟨_, List.getElem?_eq_getElem hlt⟩
      refine Exists.intro i (And.intro rfl (Exists.intro (moC m) (And.intro (get_map hm) ?_)))
      refine And.intro (fun v hv => ?_) (fun hv => ?_)
      · rw [hS] at hv
        have hsn : seenB ms i m.name = true := by
          cases hh : seenB ms i m.name with
          | true => rfl
          | false => rw [hh] at hv; cases hv
        rw [hsn] at hv
        cases hv
        refine And.intro (fun h3 => ?_) (fun h3 => by cases h3)
        have hp2 := fin_k hp (fS 4 (f4 (range_bad hlt (by rw [new_val hm, hsn]; rfl))) (by decide)) (by decide)
        refine And.intro closed_nil (And.intro closed_nil (And.intro closed_nil ?_))
        exact hp2
      · rw [hS] at hv
        have hsn : seenB ms i m.name = false := by
          cases hh : seenB ms i m.name with
          | false => rfl
          | true => rw [hh] at hv; cases hv
        clear hv
        refine And.intro (fun h3 => by cases h3) (fun h3 => ?_)
        have hS' : ∀ q, mapFind (.s q) (mapSet (.s m.name) (.bool true) S) = match seenB ms (i + 1) q with | true => some (.bool true) | false => none := by
          intro q
          rw [mapFind_set, hS, seen_step hm]
          by_cases hq : m.name = q
          · subst hq
            simp [hsn]
          · rw [if_neg (by simpa using hq), decide_eq_false hq, Bool.or_false]
        refine Exists.intro [] ?_
        repeat' (first
          | refine Exists.intro _ (And.intro rfl (And.intro rfl (And.intro closed_nil ?_)))
          | fail)
        refine Exists.intro (ms.length - (i + 1)) (And.intro (by omega) ⟨i + 1, _, by omega, rfl, lt_step hnew (by rw [new_val hm, hsn]; rfl), hS', ?_, rfl⟩)
        rw [wrap_succ hlt (by omega)]
    have h2 := of_decide_eq_false h2
    have hnn := range_all (n := ms.length) fun k hk => hnew k (by omega)
    have eS : soundF ms ⟨a, b, c, d⟩ = 0 := by simp only [soundF, e1, e2, hall, hnn, Bool.true_eq_false, if_false]
    have hSo := sound_of eS
    clear f4 fS hnew hS h2
    have f5 : ms.all (fun m => resB ms m.imps) = false → linkC ms ⟨a, b, c, d⟩ = 5 := fun h => by simp only [linkC, eS, h, ne_eq, not_true_eq_false, if_true, if_false]
    refine Exists.intro ms (And.intro rfl (And.intro hlen (And.intro hsm ?_)))
    intro M hM
    refine Or.inr ?_
    have hl4 := hSo.len
    have hgm := hSo.mo
    have hfu := hSo.full
    refine Exists.intro true (Exists.intro [0, 3, 4, 11, 12, 69, 70, 71] (Exists.intro (fun n vs h => ∃ i : Nat, i ≤ ms.length ∧ n = ms.length - i ∧ (ms.take i).all (fun m => resB ms m.imps) = true ∧ vs = [.imm t z 8 (ms.map moC), .ptr 0 0 0 4, .ptr 1 0 0 6, .mapr 2, .slc 3 0 ((ms.take i).map fun m => tgsOf ms m.imps).length false, .imm t z 8 (ms.map moC), .v (.int .i64 ms.length), .v (.int .i64 i)] ∧
      h = [.box [.v (.int .i64 a), .v (.int .i64 b), .v (.int .i64 c), .v (.int .i64 d)], .box [.sl 4 [], .v (.int .i64 0), .sl 1 [], .v (.int .i64 0), .v (.int .i64 0), .sl 1 []], .mp 0 M, .lst 1 (((ms.take i).map fun m => tgsOf ms m.imps).map tgsC)]) (And.intro ?_ ?_)))
    · refine Exists.intro [] ?_
      repeat' (first
        | refine Exists.intro _ (And.intro rfl (And.intro rfl (And.intro closed_nil ?_)))
        | refine And.intro closed_nil ?_
        | fail)
      exact Exists.intro ms.length ⟨0, by omega, rfl, rfl, by rw [List.length_map]; rfl, rfl⟩
    intro n vs h hI
    obtain ⟨i, hi, rfl, hall, rfl, rfl⟩ := hI
    have htn : ((ms.take i).map (fun m => tgsOf ms m.imps)).length = i := by rw [List.length_map, List.length_take]; omega
    refine And.intro (fun h2 => ?_) (fun h2 => ?_)
    · have h2 := of_decide_eq_true h2
      have hlt : i < ms.length := by omega
      obtain ⟨m, hm⟩ : ∃ m, ms[i]? = some m := ⟨_, List.getElem?_eq_getElem hlt⟩
      have hmem := List.mem_of_getElem? hm
      have hmm := hsm m hmem
      have g := hgm m hmem
      have gil := g.il
      have htk : (ms.take (i + 1)).map (fun m => tgsOf ms m.imps) = (ms.take i).map (fun m => tgsOf ms m.imps) ++ [tgsOf ms m.imps] := by
        rw [List.take_add_one, hm, List.map_append]
        rfl
      generalize (ms.take i).map (fun m => tgsOf ms m.imps) = TG at *
      refine Exists.intro i (And.intro rfl (Exists.intro (moC m) (And.intro (get_map hm) ?_)))
      refine Or.inr ?_
      refine Exists.intro true (Exists.intro [0, 3, 4, 11, 12, 15, 69, 70, 71, 76, 77, 78] (Exists.intro (fun n vs h => ∃ j : Nat, j ≤ m.imps.length ∧ n = m.imps.length - j ∧ (m.imps.take j).all (fun s => (resolveF ms s).isSome) = true ∧ vs = [.imm t z 8 (ms.map moC), .ptr 0 0 0 4, .ptr 1 0 0 6, .mapr 2, .slc 3 0 TG.length false, .slc 4 0 (tgsOf ms (m.imps.take j)).length false, .imm t z 8 (ms.map moC), .v (.int .i64 ms.length), .v (.int .i64 i), .imm t false 1 (m.imps.map strC), .v (.int .i64 m.imps.length), .v (.int .i64 j)] ∧
        h = [.box [.v (.int .i64 a), .v (.int .i64 b), .v (.int .i64 c), .v (.int .i64 d)], .box [.sl 4 [], .v (.int .i64 0), .sl 1 [], .v (.int .i64 0), .v (.int .i64 0), .sl 1 []], .mp 0 M, .lst 1 (TG.map tgsC), .lst 3 ((tgsOf ms (m.imps.take j)).map tgC)]) (And.intro ?_ ?_)))
      · refine Exists.intro [] ?_
        repeat' (first
          | refine Exists.intro _ (And.intro rfl (And.intro rfl (And.intro closed_nil ?_)))
          | refine And.intro closed_nil ?_
          | refine And.intro (closed_TargetS _) ?_
          | fail)
        exact Exists.intro m.imps.length ⟨0, by omega, rfl, rfl, by rw [List.length_map]; rfl, rfl⟩
      intro n vs h hI
      obtain ⟨j, hj, rfl, hallj, rfl, rfl⟩ := hI
      have htl : (tgsOf ms (m.imps.take j)).length ≤ 16 := by
        have := List.length_filterMap_le (fun s => (resolveF ms s).map tgOf) (m.imps.take j)
        simp only [tgsOf]
        have := List.length_take_le j m.imps
        omega
      refine And.intro (fun h3 => ?_) (fun h3 => ?_)
      · have h3 := of_decide_eq_true h3
        have hjl : j < m.imps.length := by omega
        obtain ⟨s, hs⟩ : ∃ s, m.imps[j]? = some s := ⟨_, List.getElem?_eq_getElem hjl⟩
        have hrs := res_eq hl4.2 hgm (hfu m hmem s (List.mem_of_getElem? hs))
        refine Exists.intro j (And.intro rfl (Exists.intro (strC s) (And.intro (get_map hs) ?_)))
        refine And.intro (fun v hv => ?_) (fun hv => ?_)
        · rw [hM, hrs] at hv
          obtain ⟨p, hp1, rfl⟩ := Option.map_eq_some_iff.1 hv
          have hst := tgs_at hs hp1
          refine And.intro (fun h4 => by cases h4) (fun h4 => ?_)
          generalize tgsOf ms (m.imps.take j) = T at *
          repeat' (first
            | refine Exists.intro [tgC (tgOf p)] (And.intro rfl (And.intro rfl (And.intro (tg_notSl _) ?_)))
            | refine And.intro (List.length_map _) ?_
            | refine And.intro (by simp; omega) ?_
            | fail)
          refine Exists.intro [] ?_
          repeat' (first
            | refine Exists.intro _ (And.intro rfl (And.intro rfl (And.intro closed_nil ?_)))
            | refine And.intro (closed_TargetS _) ?_
            | refine And.intro (closed_app (closed_Target T) (closed_Target [tgOf p])) ?_
            | fail)
          refine Exists.intro (m.imps.length - (j + 1)) (And.intro (by omega) ⟨j + 1, by omega, rfl, all_take hs hallj (by rw [hp1]; rfl), ?_, ?_⟩)
          · rw [wrap_succ hjl (by omega), hst]
            simp
          · rw [hst]
            simp
        · rw [hM, hrs] at hv
          have hn := Option.map_eq_none_iff.1 hv
          refine And.intro (fun h4 => ?_) (fun h4 => by cases h4)
          have hp2 := fin_k hp (f5 (all_bad hm (all_bad hs (by rw [hn]; rfl)))) (by decide)
          refine And.intro closed_nil (And.intro closed_nil (And.intro closed_nil ?_))
          exact hp2
      · have h3 := of_decide_eq_false h3
        have hjj : j = m.imps.length := by omega
        subst hjj
        rw [List.take_length] at hallj htl ⊢
        repeat' (first
          | refine Exists.intro _ (And.intro (lendD _ _) (And.intro (List.length_map _) (And.intro (closed_Target _) ?_)))
          | refine And.intro (closed_Target _) ?_
          | refine And.intro rfl (And.intro (List.length_map _) (And.intro (by simp; omega) (And.intro (by simp; omega) ?_)))
          | fail)
        refine Exists.intro [] ?_
        repeat' (first
          | refine Exists.intro _ (And.intro rfl (And.intro rfl (And.intro closed_nil ?_)))
          | refine And.intro (closed_app (closed_TargetS TG) (closed_TargetS [_])) ?_
          | fail)
        refine Exists.intro (ms.length - (i + 1)) (And.intro (by omega) ⟨i + 1, by omega, rfl, all_take hm hall hallj, ?_, ?_⟩)
        · rw [wrap_succ hlt (by omega), htk]
          simp
        · rw [htk]
          simp
          rfl
    have h2 := of_decide_eq_false h2
    rw [List.take_of_length_le (by omega)] at hall htn ⊢
    clear f5
    refine And.intro (fun h3 => ?_) (fun h3 => ?_)
    · have h3 := of_decide_eq_true h3
      have f6 : ms.all (bankB ⟨a, b, c, d⟩) = false → linkC ms ⟨a, b, c, d⟩ = 6 := fun h => by
        have hl : longB ms ⟨a, b, c, d⟩ = true := by simp only [longB, h, decide_eq_true (show 0 < a from h3), Bool.not_false, Bool.and_true]
        simp only [linkC, eS, hall, hl, ne_eq, not_true_eq_false, Bool.true_eq_false, if_true, if_false]
      generalize hTG : (ms.map fun m => tgsOf ms m.imps) = TG at *
      refine Exists.intro true (Exists.intro [0, 3, 4, 12, 104, 105, 106] (Exists.intro (fun n vs h => ∃ i : Nat, i ≤ ms.length ∧ n = ms.length - i ∧ (ms.take i).all (bankB ⟨a, b, c, d⟩) = true ∧ vs = [.imm t z 8 (ms.map moC), .ptr 0 0 0 4, .ptr 1 0 0 6, .slc 2 0 TG.length false, .imm t z 8 (ms.map moC), .v (.int .i64 ms.length), .v (.int .i64 i)] ∧
        h = [.box [.v (.int .i64 a), .v (.int .i64 b), .v (.int .i64 c), .v (.int .i64 d)], .box [.sl 4 [], .v (.int .i64 0), .sl 1 [], .v (.int .i64 0), .v (.int .i64 0), .sl 1 []], .lst 1 (TG.map tgsC)]) (And.intro ?_ ?_)))
      · refine Exists.intro [] ?_
        repeat' (first
          | refine Exists.intro _ (And.intro rfl (And.intro rfl (And.intro closed_nil ?_)))
          | refine And.intro (closed_TargetS _) ?_
          | fail)
        exact Exists.intro ms.length ⟨0, by omega, rfl, rfl, by rw [List.length_map]; rfl, rfl⟩
      intro n vs h hI
      obtain ⟨i, hi, rfl, hbk, rfl, rfl⟩ := hI
      refine And.intro (fun h4 => ?_) (fun h4 => ?_)
      · have h4 := of_decide_eq_true h4
        have hlt : i < ms.length := by omega
        obtain ⟨m, hm⟩ : ∃ m, ms[i]? = some m := ⟨_, List.getElem?_eq_getElem hlt⟩
        have g := hgm m (List.mem_of_getElem? hm)
        have gbl := g.bl
        refine Exists.intro i (And.intro rfl (Exists.intro (moC m) (And.intro (get_map hm) ?_)))
        refine Exists.intro true (Exists.intro [0, 3, 4, 12, 104, 105, 106, 111, 112, 113] (Exists.intro (fun n vs h => ∃ j : Nat, j ≤ m.banks.length ∧ n = m.banks.length - j ∧ (m.banks.take j).all (fun x => decide ((x.length : Int) ≤ b)) = true ∧ vs = [.imm t z 8 (ms.map moC), .ptr 0 0 0 4, .ptr 1 0 0 6, .slc 2 0 TG.length false, .imm t z 8 (ms.map moC), .v (.int .i64 ms.length), .v (.int .i64 i), .imm t false 1 (m.banks.map bankC), .v (.int .i64 m.banks.length), .v (.int .i64 j)] ∧
          h = [.box [.v (.int .i64 a), .v (.int .i64 b), .v (.int .i64 c), .v (.int .i64 d)], .box [.sl 4 [], .v (.int .i64 0), .sl 1 [], .v (.int .i64 0), .v (.int .i64 0), .sl 1 []], .lst 1 (TG.map tgsC)]) (And.intro ?_ ?_)))
        · refine Exists.intro [] ?_
          repeat' (first
            | refine Exists.intro _ (And.intro rfl (And.intro rfl (And.intro closed_nil ?_)))
            | refine And.intro (closed_TargetS _) ?_
            | fail)
          exact Exists.intro m.banks.length ⟨0, by omega, rfl, rfl, by rw [List.length_map]; rfl, rfl⟩
        intro n vs h hI
        obtain ⟨j, hj, rfl, hbj, rfl, rfl⟩ := hI
        refine And.intro (fun h5 => ?_) (fun h5 => ?_)
        · have h5 := of_decide_eq_true h5
          have hjl : j < m.banks.length := by omega
          obtain ⟨x, hx⟩ : ∃ x, m.banks[j]? = some x := ⟨_, List.getElem?_eq_getElem hjl⟩
          refine Exists.intro j (And.intro rfl (Exists.intro (bankC x) (And.intro (get_map hx) ?_)))
          refine And.intro (fun h6 => ?_) (fun h6 => ?_)
          · have h6 := of_decide_eq_true h6
            rw [List.length_map] at h6
            have hb2 : bankB ⟨a, b, c, d⟩ m = false := all_bad hx (decide_eq_false (show ¬ (x.length : Int) ≤ b by omega))
            have hp2 := fin_k hp (f6 (all_bad hm hb2)) (by decide)
            refine And.intro closed_nil (And.intro closed_nil (And.intro closed_nil ?_))
            exact hp2
          · have h6 := of_decide_eq_false h6
            rw [List.length_map] at h6
            refine Exists.intro [] ?_
            repeat' (first
              | refine Exists.intro _ (And.intro rfl (And.intro rfl (And.intro closed_nil ?_)))
              | refine And.intro (closed_TargetS _) ?_
              | fail)
            refine Exists.intro (m.banks.length - (j + 1)) (And.intro (by omega) ⟨j + 1, by omega, rfl, all_take hx hbj (decide_eq_true (by omega)), ?_, rfl⟩)
            rw [wrap_succ hjl (by omega)]
        · have h5 := of_decide_eq_false h5
          rw [List.take_of_length_le (by omega)] at hbj
          refine Exists.intro [] ?_
          repeat' (first
            | refine Exists.intro _ (And.intro rfl (And.intro rfl (And.intro closed_nil ?_)))
            | refine And.intro (closed_TargetS _) ?_
            | fail)
          refine Exists.intro (ms.length - (i + 1)) (And.intro (by omega) ⟨i + 1, by omega, rfl, all_take hm hbk hbj, ?_, rfl⟩)
          rw [wrap_succ hlt (by omega)]
      have h4 := of_decide_eq_false h4
      rw [List.take_of_length_le (by omega)] at hbk
      have hlo : longB ms ⟨a, b, c, d⟩ = false := by simp only [longB, hbk, Bool.not_true, Bool.and_false]
      subst hTG
      refine Exists.intro ms (And.intro rfl (And.intro hsm (And.intro hSo ?_)))
      have e : linkC ms ⟨a, b, c, d⟩ = if 16384 < (laP ms ⟨a, b, c, d⟩).flash then 7 else if 16384 < (laP ms ⟨a, b, c, d⟩).ram then 8 else 0 := by simp only [linkC, eS, hall, hlo, ne_eq, not_true_eq_false, Bool.true_eq_false, Bool.false_eq_true, if_true, if_false]; rfl
      refine And.intro (fun h4 => ?_) (fun h4 => ?_)
      · have h4 := of_decide_eq_true h4
        rw [if_pos h4] at e
        have hp2 := fin_k hp e (by decide)
        refine And.intro closed_nil (And.intro closed_nil (And.intro closed_nil ?_))
        exact hp2
      have h4 := of_decide_eq_false h4
      rw [if_neg h4] at e
      refine And.intro (fun h5 => ?_) (fun h5 => ?_)
      · have h5 := of_decide_eq_true h5
        rw [if_pos h5] at e
        have hp2 := fin_k hp e (by decide)
        refine And.intro closed_nil (And.intro closed_nil (And.intro closed_nil ?_))
        exact hp2
      have h5 := of_decide_eq_false h5
      rw [if_neg h5] at e
      have hp2 := fin_la hp e
      rw [laP_laF] at hp2
      refine And.intro (closed_Place _) (And.intro (closed_Int _) (And.intro (closed_TargetS _) ?_))
      exact hp2
    have h3 := of_decide_eq_false h3
    have hlo : longB ms ⟨a, b, c, d⟩ = false := by simp only [longB, decide_eq_false (show ¬ 0 < a from h3), Bool.false_and]
    refine Exists.intro ms (And.intro rfl (And.intro hsm (And.intro hSo ?_)))
    have e : linkC ms ⟨a, b, c, d⟩ = if 16384 < (laP ms ⟨a, b, c, d⟩).flash then 7 else if 16384 < (laP ms ⟨a, b, c, d⟩).ram then 8 else 0 := by simp only [linkC, eS, hall, hlo, ne_eq, not_true_eq_false, Bool.true_eq_false, Bool.false_eq_true, if_true, if_false]; rfl
    refine And.intro (fun h4 => ?_) (fun h4 => ?_)
    · have h4 := of_decide_eq_true h4
      rw [if_pos h4] at e
      have hp2 := fin_k hp e (by decide)
      refine And.intro closed_nil (And.intro closed_nil (And.intro closed_nil ?_))
      exact hp2
    have h4 := of_decide_eq_false h4
    rw [if_neg h4] at e
    refine And.intro (fun h5 => ?_) (fun h5 => ?_)
    · have h5 := of_decide_eq_true h5
      rw [if_pos h5] at e
      have hp2 := fin_k hp e (by decide)
      refine And.intro closed_nil (And.intro closed_nil (And.intro closed_nil ?_))
      exact hp2
    have h5 := of_decide_eq_false h5
    rw [if_neg h5] at e
    have hp2 := fin_la hp e
    rw [laP_laF] at hp2
    refine And.intro (closed_Place _) (And.intro (closed_Int _) (And.intro (closed_TargetS _) ?_))
    exact hp2
  · exact hp.elim
end Go.Proofs.YtbfjkjdbdejnmaaGreat.Ab

/- Memories: marked and found again. No condition. -/
namespace Go.Proofs.YtbfjkjdbdejnmaaGreat.Ab

end Go.Proofs.YtbfjkjdbdejnmaaGreat.Ab
