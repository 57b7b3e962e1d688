/- Link of impl: the layout. No condition. -/
import Derived.Test.YtijjonafmmhhbaaTLink4
namespace Go.Proofs.Ytijjonafmmhhbaa.Ab
set_option linter.unusedVariables false
set_option linter.unusedSimpArgs false

def laP (ms : List Mo) (c : Cf) : La := { laF ms c with tgts := [] }
def hPlaced : CH := fun args hl K => match args, hl with
  | [.imm _ _ 8 L, .agg [.v (.int .i64 a), .v (.int .i64 b), .v (.int .i64 c), .v (.int .i64 d)]], [] => ∃ ms : List Mo, L = ms.map moC ∧ (∀ m ∈ ms, smMo m) ∧ Sound ms ⟨a, b, c, d⟩ ∧ K (laR (laP ms ⟨a, b, c, d⟩)) (laH (laP ms ⟨a, b, c, d⟩))
  | _, _ => False
theorem moSz_id (m : Mo) : rup (moSz m) = moSz m := rup_id (rup_mod _)
def cx_s_placed : Ctx := mkC [(118, callM [] false hNewAl), (120, callM [] false hNewAl), (122, callM [.rw] true hPlaceL), (123, callM [] false hRup), (124, callM [.rw] true hPlaceN), (125, callM [.rw] false hUsed), (126, callM [.rw] false hUsed), (119, callM [] true hLenF), (121, callM [] false hIdF)]
theorem cx_s_placed_ok : CtxOk Try.prog cx_s_placed := mkC_ok (mem1 ⟨s_newAl1, fnOk Try.func118 rfl rfl⟩ (mem1 ⟨s_newAl2, fnOk Try.func120 rfl rfl⟩ (mem1 ⟨s_place1, fnOk Try.func122 rfl rfl⟩ (mem1 ⟨s_roundUp, fnOk Try.func123 rfl rfl⟩ (mem1 ⟨s_place2, fnOk Try.func124 rfl rfl⟩ (mem1 ⟨s_used1, fnOk Try.func125 rfl rfl⟩ (mem1 ⟨s_used2, fnOk Try.func126 rfl rfl⟩ (mem1 ⟨s_placed1, fnOk Try.func119 rfl rfl⟩ (mem1 ⟨s_placed2, fnOk Try.func121 rfl rfl⟩ mem0)))))))))
set_option maxRecDepth 100000 in
set_option pp.maxSteps 1500 in
set_option maxHeartbeats 16000000 in
theorem s_placed : HSound Try.prog 77 (callM [] true hPlaced) := by
  refine callM_sound cx_s_placed_ok mixed Try.func77 rfl fun args hl K hp => ?_
  unfold hPlaced at hp
  split at hp
  · rename_i t z L a b c d
    obtain ⟨ms, rfl, hsm, hS, hp⟩ := hp
    obtain ⟨⟨ca0, ca1, cb0, cb1, cc0, cc1, ccm⟩, ⟨ln0, ln1⟩, hgm, _⟩ := hS
    simp only at ca0 ca1 cb0 cb1 cc0 cc1 ccm
    refine Exists.intro true (Exists.intro [0, 3, 4, 5, 6, 7, 15, 16, 17] (Exists.intro (fun n vs h => ∃ i : Nat, i ≤ ms.length ∧ n = ms.length - i ∧ vs = [.imm t z 8 (ms.map moC), .ptr 0 0 0 4, .ptr 1 0 0 6, .ptr 2 0 0 3, .ptr 3 0 0 3, .ptr 4 0 0 6, .imm t z 8 (ms.map moC), .v (.int .i64 ms.length), .v (.int .i64 i)] ∧
      h = [.box [.v (.int .i64 a), .v (.int .i64 b), .v (.int .i64 c), .v (.int .i64 d)], .box [.sl 4 [], .v (.int .i64 0), .sl 1 [], .v (.int .i64 0), .v (.int .i64 0), .sl 1 []],
        .box [.v (.int .i64 0), .v (.int .i64 (plP ms i).2.1), .fn 119 []], .box [.v (.int .i64 65536), .v (.int .i64 ((65536 + (plP ms i).2.2 : Nat) : Int)), .fn 121 []],
        .box [.sl 4 ((plP ms i).1.map plC), .v (.int .i64 0), .sl 1 [], .v (.int .i64 0), .v (.int .i64 0), .sl 1 []]]) (And.intro ?_ ?_)))
    · refine Exists.intro [] ?_
      repeat' (first
        | refine Exists.intro _ (And.intro rfl (And.intro rfl (And.intro closed_nil ?_)))
        | fail)
      refine Exists.intro ms.length ⟨0, by omega, rfl, ?_, rfl⟩
      rw [List.length_map]
      rfl
    intro n vs h hI
    obtain ⟨i, hi, rfl, rfl, rfl⟩ := hI
    refine And.intro (fun h1 => ?_) (fun h1 => ?_)
    · have h1 := of_decide_eq_true h1
      have hlt : i < ms.length := by omega
      obtain ⟨m, hm⟩ : ∃ m, ms[i]? = some m := ⟨_, List.getElem?_eq_getElem hlt⟩
      have hmm := hsm m (List.mem_of_getElem? hm)
      have g := hgm m (List.mem_of_getElem? hm)
      have gl := g.dl
      have gb := g.bss
      have gt := g.tl
      have hst := plP_at hm
      obtain ⟨pb1, pb2⟩ := plP_le hgm i
      have pl := plP_len (ms := ms) (i := i) (by omega)
      generalize hQ : plP ms i = Q at *
      obtain ⟨PL, f, r⟩ := Q
      simp only at *
      have hrt := rup_le (4 * m.text.length)
      refine Exists.intro i (And.intro rfl (Exists.intro (moC m) (And.intro (get_map hm) ?_)))
      refine And.intro rfl (Exists.intro f (And.intro rfl (And.intro (by omega) (And.intro (by rw [List.length_map]; omega) ?_))))
      have hf1 : f + rup (4 * m.text.length) ≤ 20000 := by omega
      have hbk := fun b hb => (g.bk b hb).1
      have hbn := g.bl
      have hF1' : rup (4 * (m.text.map intC).length) = rup (4 * m.text.length) := by rw [List.length_map]
      generalize hF1 : f + rup (4 * m.text.length) = f1 at *
      refine Exists.intro true (Exists.intro [0, 3, 4, 5, 6, 7, 9, 10, 15, 16, 17, 33, 34, 35] (Exists.intro (fun n vs h => ∃ j : Nat, j ≤ m.banks.length ∧ n = m.banks.length - j ∧ vs = [.imm t z 8 (ms.map moC), .ptr 0 0 0 4, .ptr 1 0 0 6, .ptr 2 0 0 3, .ptr 3 0 0 3, .ptr 4 0 0 6, .iptr t (moC m), .ptr 5 0 0 4, .imm t z 8 (ms.map moC), .v (.int .i64 ms.length), .v (.int .i64 i), .imm t false 1 (m.banks.map bankC), .v (.int .i64 m.banks.length), .v (.int .i64 j)] ∧
        h = [.box [.v (.int .i64 a), .v (.int .i64 b), .v (.int .i64 c), .v (.int .i64 d)], .box [.sl 4 [], .v (.int .i64 0), .sl 1 [], .v (.int .i64 0), .v (.int .i64 0), .sl 1 []],
          .box [.v (.int .i64 0), .v (.int .i64 (bkP m.banks f1 j).2), .fn 119 []], .box [.v (.int .i64 65536), .v (.int .i64 ((65536 + r : Nat) : Int)), .fn 121 []],
          .box [.sl 4 (PL.map plC), .v (.int .i64 0), .sl 1 [], .v (.int .i64 0), .v (.int .i64 0), .sl 1 []],
          .box [.v (.int .i64 f), .sl 1 ((bkP m.banks f1 j).1.map intC), .v (.int .i64 0), .v (.int .i64 0)]]) (And.intro ?_ ?_)))
      · refine Exists.intro [] ?_
        repeat' (first
          | refine Exists.intro _ (And.intro rfl (And.intro rfl (And.intro closed_nil ?_)))
          | fail)
        exact Exists.intro m.banks.length ⟨0, by omega, rfl, by rw [List.length_map]; rfl, by rw [hF1', hF1]; rfl⟩
      · intro n vs h hI
        obtain ⟨j, hj, rfl, rfl, rfl⟩ := hI
        refine And.intro (fun h2 => ?_) (fun h2 => ?_)
        · have h2 := of_decide_eq_true h2
          have hjl : j < m.banks.length := by omega
          obtain ⟨x, hx⟩ : ∃ x, m.banks[j]? = some x := ⟨_, List.getElem?_eq_getElem hjl⟩
          have hxl := hbk x (List.mem_of_getElem? hx)
          have hble := bkP_le hbk f1 j
          have hbl := bkP_len m.banks f1 hj
          have hbs := bkP_at m.banks f1 hx
          have hrx := rup_le (4 * x.length)
          generalize bkP m.banks f1 j = B at *
          obtain ⟨bl, bf⟩ := B
          simp only at *
          have hxm : (x.map intC).length ≤ 1048576 := by rw [List.length_map]; omega
          have hbf : bf ≤ 1048576 := by omega
          refine Exists.intro j (And.intro rfl (Exists.intro (bankC x) (And.intro (get_map hx) ?_)))
          refine Or.inl ?_
          refine And.intro (show wfB _ = true from by kernel_rfl) ?_
          repeat' (first
            | (refine And.intro rfl ?_; refine Exists.intro bf ?_; refine And.intro rfl ?_; refine And.intro hbf ?_; refine And.intro hxm ?_; exact And.intro rfl rfl)
            | (refine Exists.intro [intC (bf : Int)] ?_; refine And.intro rfl ?_; refine And.intro rfl ?_; refine And.intro (int_notSl1 [_]) ?_; refine And.intro rfl ?_; refine And.intro (by simp; omega) ?_; refine And.intro (by simp; omega) ?_; exact And.intro rfl rfl)
            | refine And.intro (show wfB _ = true from by kernel_rfl) ?_ | refine And.intro (And.intro rfl rfl) ?_ | exact And.intro rfl rfl | apply HeldC.intro | exact AV.top | (apply HeldF.intro; refine Exists.intro _ (And.intro (by assumption) ?_); refine And.intro (by decide) ?_; exact And.intro rfl rfl) | (refine And.intro (by (refine Exists.intro _ (And.intro (by assumption) ?_); refine And.intro (by decide) ?_; exact And.intro rfl rfl)) ?_) | refine Or.inl ?_
            | refine And.intro ?_ ?_
            | fail)
          refine Exists.intro [] ?_
          repeat' (first
            | refine Exists.intro _ (And.intro List.take_length (And.intro rfl (And.intro (closed_Place _) ?_)))
            | refine Exists.intro _ (And.intro (takeA _ _) (And.intro List.length_append (And.intro (closed_app (closed_Int bl) (closed_Int [_])) ?_)))
            | refine Exists.intro _ (And.intro rfl (And.intro rfl (And.intro closed_nil ?_)))
            | fail)
          refine Exists.intro (m.banks.length - (j + 1)) (And.intro (by omega) ⟨j + 1, by omega, rfl, ?_, ?_⟩)
          · rw [wrap_succ hjl (by omega)]
          · rw [hbs, List.length_map]
            simp only [List.map_append]
            rfl
        · have h2 := of_decide_eq_false h2
          have hjj : j = m.banks.length := by omega
          subst hjj
          have hble := bkP_le hbk f1 m.banks.length
          have hbl := bkP_len m.banks f1 (Nat.le_refl m.banks.length)
          generalize bkP m.banks f1 m.banks.length = B at *
          obtain ⟨bl, bf⟩ := B
          simp only at *
          have hmz := rup_le (m.data.length + m.bss.toNat)
          have hwbs : IntKind.i64.wrap (((m.data.map byteC).length : Int) + m.bss) = ((m.data.length + m.bss.toNat : Nat) : Int) := by rw [List.length_map, wrap64 (by omega)]; omega
          have hm1 : m.data.length + m.bss.toNat ≤ 1099511627776 := by omega
          have hr2 : 65536 + r ≤ 1048576 := by omega
          have hms : moSz m ≤ 1048576 := by unfold moSz; omega
          have hid := moSz_id m
          refine Or.inl ?_
          refine And.intro (show wfB _ = true from by kernel_rfl) ?_
          repeat' (first
            | (refine Exists.intro (m.data.length + m.bss.toNat) ?_; refine And.intro hwbs ?_; refine And.intro hm1 ?_; exact And.intro rfl rfl)
            | refine And.intro (show wfB _ = true from by kernel_rfl) ?_ | refine And.intro (And.intro rfl rfl) ?_ | exact And.intro rfl rfl | apply HeldC.intro | exact AV.top | (apply HeldF.intro; refine Exists.intro _ (And.intro (by assumption) ?_); refine And.intro (by decide) ?_; exact And.intro rfl rfl) | (refine And.intro (by (refine Exists.intro _ (And.intro (by assumption) ?_); refine And.intro (by decide) ?_; exact And.intro rfl rfl)) ?_) | refine Or.inl ?_
            | refine And.intro ?_ ?_
            | fail)
          all_goals try exact rfl
          refine Exists.intro (65536 + r) (Exists.intro (moSz m) (And.intro rfl (And.intro rfl (And.intro hr2 (And.intro hms ?_)))))
          all_goals repeat' (first
            | refine Exists.intro _ (And.intro List.take_length (And.intro rfl (And.intro (closed_Int _) ?_)))
            | refine Exists.intro _ (And.intro (lendD _ _) (And.intro (List.length_map _) (And.intro (closed_Target _) ?_)))
            | refine And.intro rfl (And.intro rfl (And.intro (by simp; omega) (And.intro (by simp; omega) ?_)))
            | refine And.intro (closed_Place [⟨f, bl, ((65536 + r : Nat) : Int), moSz m⟩]) ?_
            | fail)
          refine Exists.intro [] ?_
          have hst2 : plP ms (i + 1) = (PL ++ [⟨f, bl, 65536 + (r : Int), moSz m⟩], bf, r + moSz m) := hst
          have ecst : ((65536 + r : Nat) : Int) = 65536 + (r : Int) := by omega
          repeat' (first
            | refine Exists.intro _ (And.intro (takeA _ _) (And.intro List.length_append (And.intro (closed_app (closed_Place PL) (closed_Place [⟨f, bl, ((65536 + r : Nat) : Int), moSz m⟩])) ?_)))
            | refine Exists.intro _ (And.intro rfl (And.intro rfl (And.intro closed_nil ?_)))
            | fail)
          refine Exists.intro (ms.length - (i + 1)) (And.intro (by omega) ⟨i + 1, by omega, rfl, ?_, ?_⟩)
          · rw [wrap_succ hlt (by omega)]
          · rw [hst2, hid, ← ecst, show 65536 + (r + moSz m) = 65536 + r + moSz m by omega]
            simp only [List.map_append]
            rfl
    · have h1 := of_decide_eq_false h1
      have hil : i = ms.length := by omega
      subst hil
      obtain ⟨pb1, pb2⟩ := plP_le hgm ms.length
      have prm := plP_ram ms ms.length
      have pl := plP_len (ms := ms) (i := ms.length) (Nat.le_refl _)
      have eL : laP ms ⟨a, b, c, d⟩ = ⟨(plP ms ms.length).1, 65536 + ((plP ms ms.length).2.2 : Int), (slP b.toNat ((plP ms ms.length).2.2 + c.toNat) a.toNat).1, (plP ms ms.length).2.1, (slP b.toNat ((plP ms ms.length).2.2 + c.toNat) a.toNat).2, []⟩ := rfl
      rw [eL] at hp
      clear eL
      generalize plP ms ms.length = Q at *
      obtain ⟨PL, f, r⟩ := Q
      simp only at *
      obtain ⟨A, rfl⟩ := Int.eq_ofNat_of_zero_le ca0
      obtain ⟨W, rfl⟩ := Int.eq_ofNat_of_zero_le (show 0 ≤ b by omega)
      obtain ⟨S, rfl⟩ := Int.eq_ofNat_of_zero_le cc0
      simp only [Int.toNat_natCast] at hp
      have hS32 : S % 32 = 0 := by
        rw [Int.tmod_eq_emod_of_nonneg (by omega)] at ccm
        omega
      have hrS : rup S = S := rup_id hS32
      refine And.intro rfl (Exists.intro (65536 + r) (Exists.intro S (And.intro rfl (And.intro rfl (And.intro (by omega) (And.intro (by omega) ?_))))))
      have hw3 : IntKind.i64.wrap (4 * (W : Int)) = ((4 * W : Nat) : Int) := by rw [wrap64 (by omega)]; omega
      have hrw := rup_le (4 * W)
      have hr1b : r + S ≤ 10000 := by omega
      have hr1 : 65536 + r + S = 65536 + (r + S) := by omega
      generalize hr2 : r + S = r1 at *
      refine Exists.intro true (Exists.intro [3, 4, 5, 6, 7, 78, 79] (Exists.intro (fun n vs h => ∃ k : Nat, k ≤ A ∧ n = A - k ∧ vs = [.ptr 0 0 0 4, .ptr 1 0 0 6, .ptr 2 0 0 3, .ptr 3 0 0 3, .ptr 4 0 0 6, .v (.int .i64 A), .v (.int .i64 k)] ∧
        h = [.box [.v (.int .i64 A), .v (.int .i64 W), .v (.int .i64 S), .v (.int .i64 d)], .box [.sl 4 [], .v (.int .i64 0), .sl 1 [], .v (.int .i64 0), .v (.int .i64 0), .sl 1 []],
          .box [.v (.int .i64 0), .v (.int .i64 f), .fn 119 []], .box [.v (.int .i64 65536), .v (.int .i64 ((65536 + (slP W r1 k).2 : Nat) : Int)), .fn 121 []],
          .box [.sl 4 (PL.map plC), .v (.int .i64 (65536 + (r : Int))), .sl 1 ((slP W r1 k).1.map intC), .v (.int .i64 0), .v (.int .i64 0), .sl 1 []]]) (And.intro ?_ ?_)))
      · refine Exists.intro [] ?_
        repeat' (first
          | refine Exists.intro _ (And.intro List.take_length (And.intro rfl (And.intro (closed_Place _) ?_)))
          | refine Exists.intro _ (And.intro rfl (And.intro rfl (And.intro closed_nil ?_)))
          | fail)
        refine Exists.intro A ⟨0, by omega, rfl, rfl, ?_⟩
        rw [hrS, hr1, show ((65536 + r : Nat) : Int) = 65536 + (r : Int) by omega]
        rfl
      · intro n vs h hI
        obtain ⟨k, hk, rfl, rfl, rfl⟩ := hI
        refine And.intro (fun h2 => ?_) (fun h2 => ?_)
        · have h2 := of_decide_eq_true h2
          have hkl : k < A := by omega
          have hsl := slP_len W r1 k
          have hsp := slP_le (w := W) (by omega) r1 k
          have hss : slP W r1 (k + 1) = ((slP W r1 k).1 ++ [65536 + ((slP W r1 k).2 : Int)], (slP W r1 k).2 + rup (4 * W)) := rfl
          generalize slP W r1 k = B at *
          obtain ⟨sl, sr⟩ := B
          simp only at *
          have hsr : 65536 + sr ≤ 1048576 := by omega
          have h4w : 4 * W ≤ 1048576 := by omega
          refine Or.inl ?_
          refine And.intro (show wfB _ = true from by kernel_rfl) ?_
          repeat' (first
            | (refine And.intro rfl ?_; refine Exists.intro (65536 + sr) ?_; refine Exists.intro (4 * W) ?_; refine And.intro rfl ?_; refine And.intro hw3 ?_; refine And.intro hsr ?_; refine And.intro h4w ?_; exact And.intro rfl rfl)
            | (refine Exists.intro [intC ((65536 + sr : Nat) : Int)] ?_; refine And.intro rfl ?_; refine And.intro rfl ?_; refine And.intro (int_notSl1 [_]) ?_; refine And.intro rfl ?_; refine And.intro (by simp; omega) ?_; refine And.intro (by simp; omega) ?_; exact And.intro rfl rfl)
            | refine And.intro (show wfB _ = true from by kernel_rfl) ?_ | refine And.intro (And.intro rfl rfl) ?_ | exact And.intro rfl rfl | apply HeldC.intro | exact AV.top | (apply HeldF.intro; refine Exists.intro _ (And.intro (by assumption) ?_); refine And.intro (by decide) ?_; exact And.intro rfl rfl) | (refine And.intro (by (refine Exists.intro _ (And.intro (by assumption) ?_); refine And.intro (by decide) ?_; exact And.intro rfl rfl)) ?_) | refine Or.inl ?_
            | refine And.intro ?_ ?_
            | fail)
          refine Exists.intro [] ?_
          repeat' (first
            | refine Exists.intro _ (And.intro List.take_length (And.intro rfl (And.intro (closed_Place _) ?_)))
            | refine Exists.intro _ (And.intro (takeA _ _) (And.intro List.length_append (And.intro (closed_app (closed_Int sl) (closed_Int [_])) ?_)))
            | refine Exists.intro _ (And.intro rfl (And.intro rfl (And.intro closed_nil ?_)))
            | fail)
          refine Exists.intro (A - (k + 1)) (And.intro (by omega) ⟨k + 1, by omega, rfl, ?_, ?_⟩)
          · rw [wrap_succ hkl (by omega)]
          · rw [hss, show ((65536 + sr : Nat) : Int) = 65536 + (sr : Int) by omega, show 65536 + (sr + rup (4 * W)) = 65536 + sr + rup (4 * W) by omega]
            simp only [List.map_append]
            rfl
        · have h2 := of_decide_eq_false h2
          have hkA : k = A := by omega
          subst hkA
          have hsp := slP_le (w := W) (by omega) r1 k
          generalize slP W r1 k = B at *
          obtain ⟨sl, sr⟩ := B
          simp only at *
          repeat' (first
            | refine And.intro (show I64 _ by simp only [I64]; omega) ?_
            | refine And.intro (closed_Place _) ?_
            | refine And.intro (closed_TargetS _) ?_
            | refine And.intro (closed_Int _) ?_
            | refine And.intro closed_nil ?_
            | fail)
          try (conv => whnf)
          simp only [List.length_map]
          rw [show (f : Int) - 0 = f by omega, show ((65536 + sr : Nat) : Int) - 65536 = sr by omega]
          exact hp
  · exact hp.elim
end Go.Proofs.Ytijjonafmmhhbaa.Ab
