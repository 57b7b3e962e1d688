/- Functions walked, part 13. No condition. -/
import Derived.Test.YtbfjkjdbdejnmaaGreatWalk12
import Derived.Test.YtbfjkjdbdejnmaaGreatWalk9
set_option linter.unusedVariables false
set_option linter.unusedSimpArgs false
/- Whether a layout is one that Link gives: both programs' walks. No condition. -/
namespace Go.Proofs.YtbfjkjdbdejnmaaGreat.Ab
set_option linter.unusedVariables false
set_option linter.unusedSimpArgs false

def hReal : CH := fun args hl K => match args, hl with
  | [.imm _ _ 8 L, a], [] => ∃ (ms : List Mo) (l : La), L = ms.map moC ∧ ms.length ≤ 1048576 ∧ (∀ m ∈ ms, smMo m) ∧ LaV a l ∧ smLa l ∧ (RealP ms l → K (.v (.bool true)) []) ∧ (¬ RealP ms l → K (.v (.bool false)) [])
  | _, _ => False
theorem gives_of {ms : List Mo} {l : La} {w : Int} (h : linkC ms (cfL l w) = 0) (e : linkL ms (cfL l w) = l) : GivesP ms l w := ⟨h, by rw [linkL, if_pos h] at e; exact e⟩
theorem gives_eq {ms : List Mo} {l : La} {w : Int} (h : GivesP ms l w) : linkC ms (cfL l w) = 0 ∧ linkL ms (cfL l w) = l := ⟨h.1, by rw [linkL, if_pos h.1]; exact h.2⟩
abbrev laI (l : La) (b1 z1 b2 z2 b3 z3 : Bool) : List AV := [.imm b1 z1 4 (l.pls.map plC), .v (.int .i64 l.stack), .imm b2 z2 1 (l.slots.map intC), .v (.int .i64 l.flash), .v (.int .i64 l.ram), .imm b3 z3 1 (l.tgts.map tgsC)]
def cx_s_l5Real : Ctx := mkCut [(88, callM [] true hEnds), (89, callM [] true hLink), (90, callM [] true hSameLa)]
theorem cx_s_l5Real_ok : CtxOk Tryz.prog cx_s_l5Real := mkCut_ok (mem1 ⟨s_l5Ends, fnOk Tryz.func88 rfl rfl⟩ (mem1 ⟨s_spec_Link, fnOk Tryz.func89 rfl rfl⟩ (mem1 ⟨s_SameLayout, fnOk Tryz.func90 rfl rfl⟩ mem0)))
set_option maxRecDepth 100000 in
set_option pp.maxSteps 1500 in
set_option maxHeartbeats 16000000 in
theorem s_l5Real : HSound Tryz.prog 37 (callM [] true hReal) := by
  refine callM_sound cx_s_l5Real_ok mixed Tryz.func37 rfl fun args hl K hp => ?_
  unfold hReal at hp
  split at hp
  · rename_i t z L a
    obtain ⟨ms, l, rfl, hlen, hsm, ⟨b1, z1, b2, z2, b3, z3, rfl⟩, hb, hp1, hp2⟩ := hp
    have hsl := hb.slots
    refine Or.inr (Exists.intro true (Exists.intro [0, 3, 5] (Exists.intro (fun vs h => vs = [.imm t z 8 (ms.map moC), .ptr 0 0 0 6, .ptr 1 0 0 4] ∧ h = [.box (laI l b1 z1 b2 z2 b3 z3), .box [.v (.int .i64 l.slots.length), .v (.int .i64 1), .v (.int .i64 (stackF l)), .v (.int .i64 0)]]) (And.intro ?_ ?_))))
    · refine Or.inl ?_
      refine And.intro (show wfB _ = true from by kernel_rfl) ?_
      repeat' (first
        | (refine Exists.intro l ?_; refine And.intro ⟨_, _, _, _, _, _, rfl⟩ ?_; exact And.intro rfl rfl)
        | refine And.intro (show wfB _ = true from by kernel_rfl) ?_ | refine And.intro (And.intro rfl rfl) ?_ | exact And.intro rfl rfl | apply HeldC.intro | exact AV.top | (apply HeldF.intro; refine Exists.intro _ (And.intro (by assumption) ?_); refine And.intro (by decide) ?_; exact And.intro rfl rfl) | (refine And.intro (by (refine Exists.intro _ (And.intro (by assumption) ?_); refine And.intro (by decide) ?_; exact And.intro rfl rfl)) ?_) | refine Or.inl ?_
        | refine And.intro ?_ ?_
        | fail)
      all_goals refine Exists.intro [] ?_
      all_goals refine And.intro rfl ?_
      all_goals rw [List.length_map]
      all_goals rfl
    rintro vs h ⟨rfl, rfl⟩
    refine Or.inr (Exists.intro true (Exists.intro [0, 3, 5] (Exists.intro (fun vs h => vs = [.imm t z 8 (ms.map moC), .ptr 0 0 0 6, .ptr 1 0 0 4] ∧ h = [.box (laI l b1 z1 b2 z2 b3 z3), .box [.v (.int .i64 l.slots.length), .v (.int .i64 (wordsF l)), .v (.int .i64 (stackF l)), .v (.int .i64 0)]]) (And.intro ?_ ?_))))
    · repeat' ((first
        | refine And.intro (fun h1 => ?_) (fun h1 => ?_)
        | fail) <;> try cases h1)
      · rename_i h0
        have h0 := of_decide_eq_true h0
        have h1 := of_decide_eq_true h1
        rw [List.length_map] at h0 h1
        obtain ⟨s, hs⟩ : ∃ s, l.slots[0]? = some s := ⟨_, List.getElem?_eq_getElem (by omega)⟩
        have ew : wordsF l = IntKind.i64.wrap ((IntKind.i64.wrap ((IntKind.i64.wrap (IntKind.i64.wrap (65536 + l.ram) - s)).tdiv ((l.slots.map intC).length : Int))).tdiv 4) := by
          rw [wordsF, if_pos (by omega), List.getD_eq_getElem?_getD, hs, List.length_map]
          rfl
        have hg := get_map (f := intC) hs
        have hne : ((l.slots.map intC).length : Int) ≠ 0 := by rw [List.length_map]; omega
        first | refine Or.inl (Or.inl ?_) | refine Or.inl ?_
        refine And.intro (show wfB _ = true from by kernel_rfl) ?_
        repeat' (first
          | refine Exists.intro 0 (And.intro rfl (Exists.intro _ (And.intro hg ?_)))
          | refine And.intro hne ?_
          | refine And.intro (show (4 : Int) ≠ 0 by decide) ?_
          | refine And.intro (show wfB _ = true from by kernel_rfl) ?_ | refine And.intro (And.intro rfl rfl) ?_ | exact And.intro rfl rfl | apply HeldC.intro | exact AV.top | (apply HeldF.intro; refine Exists.intro _ (And.intro (by assumption) ?_); refine And.intro (by decide) ?_; exact And.intro rfl rfl) | (refine And.intro (by (refine Exists.intro _ (And.intro (by assumption) ?_); refine And.intro (by decide) ?_; exact And.intro rfl rfl)) ?_) | refine Or.inl ?_
          | fail)
        refine Exists.intro [] (And.intro rfl ?_)
        rw [ew]
      all_goals simp only [List.length_map, decide_eq_false_iff_not, decide_eq_true_eq] at *
      all_goals refine Exists.intro [] (And.intro rfl ?_)
      all_goals rw [show wordsF l = 1 from if_neg (by omega)]
      all_goals rfl
    rintro vs h ⟨rfl, rfl⟩
    refine Exists.intro ms (And.intro rfl (And.intro hlen (And.intro hsm ?_)))
    have hb2 := sm_link ms (cfL l (wordsF l))
    have q1 : linkC ms (cfL l (wordsF l)) = 0 → linkL ms (cfL l (wordsF l)) = l → RealP ms l := fun h e => gives_of h e
    have q2 : RealP ms l → linkC ms (cfL l (wordsF l)) = 0 ∧ linkL ms (cfL l (wordsF l)) = l := fun h => gives_eq h
    rw [show cfL l (wordsF l) = ⟨l.slots.length, wordsF l, stackF l, 0⟩ from rfl] at hb2 q1 q2
    generalize linkL ms ⟨l.slots.length, wordsF l, stackF l, 0⟩ = k at *
    generalize linkC ms ⟨l.slots.length, wordsF l, stackF l, 0⟩ = n at *
    repeat' ((first
      | refine And.intro (fun h1 => ?_) (fun h1 => ?_)
      | refine Exists.intro _ (And.intro (lendD _ _) (And.intro (List.length_map _) ?_))
      | refine And.intro (closed_Place _) ?_
      | refine And.intro (closed_Int _) ?_
      | refine And.intro (closed_TargetS _) ?_
      | refine Exists.intro k (Exists.intro l (And.intro ⟨_, _, _, _, _, _, rfl⟩ (And.intro ⟨_, _, _, _, _, _, rfl⟩ (And.intro hb2 (And.intro (fun h2 => ?_) (fun h2 => ?_))))))
      | fail) <;> try cases h1)
    · exact hp1 (q1 (by simpa using h1) h2)
    · exact hp2 fun h => h2 (q2 h).2
    · exact hp2 fun h => by simp [(q2 h).1] at h1
  · exact hp.elim
end Go.Proofs.YtbfjkjdbdejnmaaGreat.Ab

/- Images of the reference. No condition. -/
namespace Go.Proofs.YtbfjkjdbdejnmaaGreat.Ab
set_option linter.unusedVariables false
set_option linter.unusedSimpArgs false
set_option maxRecDepth 100000

open Classical in
noncomputable def imgF (ms : List Mo) (l : La) : List Int := if RealP ms l then flashN ms l ms.length else []
open Classical in
noncomputable def imgR (ms : List Mo) (l : La) : List Int := if RealP ms l then ramN ms l ms.length else []
open Classical in
noncomputable def imgO (ms : List Mo) (l : La) : Bool := decide (RealP ms l)
theorem img_y {ms : List Mo} {l : La} (h : RealP ms l) : imgF ms l = flashN ms l ms.length ∧ imgR ms l = ramN ms l ms.length ∧ imgO ms l = true := by
  unfold imgF imgR imgO
  simp [h]
theorem img_n {ms : List Mo} {l : La} (h : ¬ RealP ms l) : imgF ms l = [] ∧ imgR ms l = [] ∧ imgO ms l = false := by
  unfold imgF imgR imgO
  simp [h]
theorem rep_take {α : Type} (n : Nat) (x : α) : List.take n (List.replicate n x) = List.replicate n x := List.take_of_length_le (by simp)
theorem closed_rep (n : Nat) : ClosedL (List.replicate n (byteC 0)) := by
  have := closed_bytes (List.replicate n 0)
  rwa [List.map_replicate] at this
theorem lay_eq {R D : List Int} {a : Nat} (h : a + D.length ≤ R.length) : List.take (0 + a) (R.map byteC) ++ List.take ((R.map byteC).length - a) (D.map byteC) ++ List.drop (0 + a + min (D.map byteC).length ((R.map byteC).length - a)) (R.map byteC) = (layB R a D).map byteC := by
  rw [List.length_map, List.length_map, Nat.min_eq_left (by omega), List.take_of_length_le (l := D.map byteC) (by rw [List.length_map]; omega), Nat.zero_add]
  simp only [layB, List.map_append, List.map_take, List.map_drop]
theorem relsN_at {r : List Int} {a k : Nat} {d x : Int} {rs : List Int} (h : rs[k]? = some x) : relsN r a d rs (k + 1) = putY (relsN r a d rs k) (a + x.toNat) ((lowAt (relsN r a d rs k) (a + x.toNat) + d) % 4294967296) 4 := by
  rw [relsN]
  simp only [List.getD_eq_getElem?_getD, h, Option.getD_some]
theorem low_lend {Q : List Int} {q : Nat} (h : q + 4 ≤ Q.length) : List.take (q + 4 - q) (List.drop (0 + q) (Q.map byteC)) = ((Q.drop q).take 4).map byteC ∧ (((Q.drop q).take 4).map byteC).length = q + 4 - q := by
  rw [Nat.zero_add, show q + 4 - q = 4 by omega, List.map_take, List.map_drop]
  refine ⟨rfl, ?_⟩
  simp only [List.length_take, List.length_drop, List.length_map]
  omega
theorem low_len {Q : List Int} {q : Nat} (h : q + 4 ≤ Q.length) : ((Q.drop q).take 4).length = 4 := by
  simp only [List.length_take, List.length_drop]
  omega
theorem low_ok {Q : List Int} (h : BytesOk Q) (q : Nat) : BytesOk ((Q.drop q).take 4) := fun b hb => h b (List.mem_of_mem_drop (List.mem_of_mem_take hb))
theorem lowAt_bd {Q : List Int} (h : BytesOk Q) {q : Nat} (hq : q + 4 ≤ Q.length) : 0 ≤ lowAt Q q ∧ lowAt Q q < 4294967296 := by
  have := lowB_bound (low_ok h q)
  rw [low_len hq] at this
  exact this
def hImage : CH := fun args hl K => match args, hl with
  | [.imm _ _ 8 L, a], [] => ∃ (ms : List Mo) (l : La), L = ms.map moC ∧ ms.length ≤ 1048576 ∧ (∀ m ∈ ms, smMo m) ∧ (∀ m ∈ ms, BytesOk m.data) ∧ LaV a l ∧ smLa l ∧
      K (.tup [.agg [.slc 0 0 (imgF ms l).length false, .slc 1 0 (imgR ms l).length false, .slc 2 0 0 false], .v (.bool (imgO ms l))]) [.lst 1 ((imgF ms l).map byteC), .lst 1 ((imgR ms l).map byteC), .lst 1 []]
  | _, _ => False
theorem fin_im {K : AV → HP → Prop} {ms : List Mo} {l : La} (hp : K (.tup [.agg [.slc 0 0 (imgF ms l).length false, .slc 1 0 (imgR ms l).length false, .slc 2 0 0 false], .v (.bool (imgO ms l))]) [.lst 1 ((imgF ms l).map byteC), .lst 1 ((imgR ms l).map byteC), .lst 1 []])
    {f r : List Int} {o : Bool} (h : imgF ms l = f ∧ imgR ms l = r ∧ imgO ms l = o) : K (.tup [.agg [.slc 0 0 f.length false, .slc 1 0 r.length false, .slc 2 0 0 false], .v (.bool o)]) [.lst 1 (f.map byteC), .lst 1 (r.map byteC), .lst 1 []] := by
  obtain ⟨rfl, rfl, rfl⟩ := h
  exact hp
def cx_s_ImageS : Ctx := mkCut [(37, callM [] true hReal), (49, callM [.rw] false hPour), (52, callM [] true hLow), (51, callM [] false hModW), (50, callM [.rw] false hLPut)]
theorem cx_s_ImageS_ok : CtxOk Tryz.prog cx_s_ImageS := mkCut_ok (mem1 ⟨s_l5Real, fnOk Tryz.func37 rfl rfl⟩ (mem1 ⟨s_l5Pour, fnOk Tryz.func49 rfl rfl⟩ (mem1 ⟨s_l1Low, fnOk Tryz.func52 rfl rfl⟩ (mem1 ⟨s_l1Word, fnOk Tryz.func51 rfl rfl⟩ (mem1 ⟨s_l1Put, fnOk Tryz.func50 rfl rfl⟩ mem0)))))
set_option maxRecDepth 100000 in
set_option pp.maxSteps 1500 in
set_option maxHeartbeats 32000000 in
theorem s_ImageS : HSound Tryz.prog 15 (callM [] true hImage) := by
  refine callM_sound cx_s_ImageS_ok mixed Tryz.func15 rfl fun args hl K hp => ?_
  unfold hImage at hp
  split at hp
  · rename_i t z L a
    obtain ⟨ms, l, rfl, hlen, hsm, hby, ⟨b1, z1, b2, z2, b3, z3, rfl⟩, hb, hp⟩ := hp
    refine Or.inl ?_
    refine Exists.intro ms ?_
    refine Exists.intro l (And.intro rfl (And.intro hlen (And.intro hsm (And.intro ⟨_, _, _, _, _, _, rfl⟩ (And.intro hb (And.intro (fun hr => ?_) (fun hr => ?_)))))))
    rotate_left
    · refine And.intro (fun h1 => ?_) (fun h1 => ?_)
      · refine And.intro closed_nil ?_
        refine And.intro closed_nil ?_
        refine And.intro closed_nil ?_
        exact fin_im hp (img_n hr)
      · cases h1
    refine And.intro (fun h1 => ?_) (fun h1 => ?_)
    · cases h1
    have hlim : Lim ms l := lim_of hr
    have hfl := hlim.fl
    have hrm := hlim.ram
    refine Or.inr (Exists.intro true (Exists.intro [0, 3, 4, 6] (Exists.intro (fun vs h => vs = [.imm t z 8 (ms.map moC), .ptr 0 0 0 6, .ptr 1 0 0 3, .ptr 2 0 0 3] ∧ h = [.box (laI l b1 z1 b2 z2 b3 z3), .box [.sl 1 [], .sl 1 [], .sl 1 []], .box [.sl 1 (List.replicate l.flash.toNat (byteC 0)), .sl 1 (List.replicate l.ram.toNat (byteC 0)), .sl 1 []]]) (And.intro ?_ ?_))))
    · refine Or.inl ?_
      refine And.intro (show wfB _ = true from by kernel_rfl) ?_
      repeat' (first
        | (refine Exists.intro l.flash.toNat ?_; refine And.intro (by omega) ?_; refine And.intro (by omega) ?_; refine And.intro (by simp only; omega) ?_; exact And.intro rfl rfl)
        | (refine Exists.intro l.ram.toNat ?_; refine And.intro (by omega) ?_; refine And.intro (by omega) ?_; refine And.intro (by simp only; omega) ?_; exact And.intro rfl rfl)
        | refine And.intro (show wfB _ = true from by kernel_rfl) ?_ | refine And.intro (And.intro rfl rfl) ?_ | exact And.intro rfl rfl | apply HeldC.intro | exact AV.top | (apply HeldF.intro; refine Exists.intro _ (And.intro (by assumption) ?_); refine And.intro (by decide) ?_; exact And.intro rfl rfl) | (refine And.intro (by (refine Exists.intro _ (And.intro (by assumption) ?_); refine And.intro (by decide) ?_; exact And.intro rfl rfl)) ?_) | refine Or.inl ?_
        | refine And.intro ?_ ?_
        | fail)
      all_goals refine Exists.intro [] ?_
      all_goals repeat' (first
        | refine Exists.intro [] (And.intro rfl (And.intro rfl (And.intro closed_nil ?_)))
        | refine Exists.intro (List.replicate l.flash.toNat (byteC 0)) (And.intro (rep_take _ _) (And.intro List.length_replicate (And.intro (closed_rep _) ?_)))
        | refine Exists.intro (List.replicate l.ram.toNat (byteC 0)) (And.intro (rep_take _ _) (And.intro List.length_replicate (And.intro (closed_rep _) ?_)))
        | fail)
      all_goals exact And.intro rfl rfl
    rintro vs h ⟨rfl, rfl⟩
    have hf0 : List.replicate l.flash.toNat (byteC 0) = (flashN ms l 0).map byteC := by rw [flashN, List.map_replicate]
    have hr0 : List.replicate l.ram.toNat (byteC 0) = (ramN ms l 0).map byteC := by rw [ramN, List.map_replicate]
    rw [hf0, hr0]
    clear hf0 hr0
    refine Exists.intro true (Exists.intro [0, 3, 4, 6, 7] (Exists.intro (fun n vs h => ∃ i : Nat, i ≤ ms.length ∧ n = ms.length - i ∧ vs = [.imm t z 8 (ms.map moC), .ptr 0 0 0 6, .ptr 1 0 0 3, .ptr 2 0 0 3, .v (.int .i64 i)] ∧ h = [.box (laI l b1 z1 b2 z2 b3 z3), .box [.sl 1 [], .sl 1 [], .sl 1 []], .box [.sl 1 ((flashN ms l i).map byteC), .sl 1 ((ramN ms l i).map byteC), .sl 1 []]]) (And.intro ?_ ?_)))
    · refine Exists.intro [] ?_
      exact Exists.intro ms.length ⟨0, by omega, rfl, rfl, rfl⟩
    intro n vs h hI
    obtain ⟨i, hi, rfl, rfl, rfl⟩ := hI
    refine Or.inl ?_
    refine And.intro (fun h1 => ?_) (fun h1 => ?_)
    · have h1 := of_decide_eq_true h1
      rw [List.length_map] at h1
      have hlt : i < ms.length := by omega
      obtain ⟨m, hm⟩ : ∃ m, ms[i]? = some m := ⟨_, List.getElem?_eq_getElem hlt⟩
      obtain ⟨p, hpl⟩ : ∃ p, l.pls[i]? = some p := ⟨_, List.getElem?_eq_getElem (by rw [hlim.pls]; omega)⟩
      obtain ⟨⟨at1, at2⟩, hbn, hat3, ⟨at4, at5⟩, hat6, hgm⟩ := hlim.at' i p m hpl hm
      have hml := hgm.bl
      have hrl := hgm.rl
      have hdl := hgm.dl
      have hfN := flashN_len ms l i
      have hrN := ramN_len hlim i
      refine Exists.intro i (And.intro rfl (Exists.intro (plC p) (And.intro (get_map hpl) ?_)))
      first | refine Or.inl (Or.inl ?_) | refine Or.inl ?_
      refine And.intro (show wfB _ = true from by kernel_rfl) ?_
      refine Exists.intro i (And.intro rfl (Exists.intro (moC m) (And.intro (get_map hm) ?_)))
      apply HeldC.intro
      · refine And.intro (closed_bytes _) ?_
        refine Exists.intro (flashN ms l i) ?_
        refine Exists.intro m.text ?_
        refine Exists.intro p.text.toNat ?_
        refine And.intro rfl (And.intro (List.length_map _) (And.intro (by omega) (And.intro rfl (And.intro hgm.tw (And.intro (by omega) (And.intro (by omega) ?_))))))
        exact And.intro rfl rfl
      have hF0 : (pourN (flashN ms l i) p.text.toNat m.text m.text.length).length = l.flash.toNat := by rw [pourN_len, hfN]
      have hf1 : flashN ms l (i + 1) = banksN (pourN (flashN ms l i) p.text.toNat m.text m.text.length) p m m.banks.length := by rw [flashN, hm, hpl]
      have hr1 : ramN ms l (i + 1) = relsN (layB (ramN ms l i) (p.data - 65536).toNat m.data) (p.data - 65536).toNat p.data m.rels m.rels.length := by rw [ramN, hm, hpl]
      have hro := ramN_ok hby l i
      have hfl0 : (List.map byteC (flashN ms l i)).length = l.flash.toNat := by rw [List.length_map, hfN]
      rw [hfl0]
      generalize pourN (flashN ms l i) p.text.toNat m.text m.text.length = F0 at *
      generalize ramN ms l i = R0 at *
      refine Exists.intro true (Exists.intro [0, 3, 4, 6, 7, 8, 9] (Exists.intro (fun n vs h => ∃ k : Nat, k ≤ m.banks.length ∧ n = m.banks.length - k ∧ vs = [.imm t z 8 (ms.map moC), .ptr 0 0 0 6, .ptr 1 0 0 3, .ptr 2 0 0 3, .v (.int .i64 i), .ptr 3 0 0 4, .v (.int .i64 k)] ∧
        h = [.box (laI l b1 z1 b2 z2 b3 z3), .box [.sl 1 [], .sl 1 [], .sl 1 []], .box [.sl 1 ((banksN F0 p m k).map byteC), .sl 1 (R0.map byteC), .sl 1 []], .box [.v (.int .i64 p.text), .imm b1 false 1 (p.banks.map intC), .v (.int .i64 p.data), .v (.int .i64 p.size)]]) (And.intro ?_ ?_)))
      · refine Exists.intro [] ?_
        have htk := tkL (C := byteC) hF0
        repeat' (first
          | refine Exists.intro [] (And.intro rfl (And.intro rfl (And.intro closed_nil ?_)))
          | refine Exists.intro _ (And.intro htk.1 (And.intro htk.2 (And.intro (closed_bytes _) ?_)))
          | refine Exists.intro _ (And.intro List.take_length (And.intro rfl (And.intro (closed_bytes _) ?_)))
          | fail)
        exact Exists.intro m.banks.length ⟨0, by omega, rfl, rfl, rfl⟩
      intro n vs h hI
      obtain ⟨k, hk1, rfl, rfl, rfl⟩ := hI
      refine Or.inl ?_
      refine Exists.intro i (And.intro rfl (Exists.intro (moC m) (And.intro (get_map hm) ?_)))
      refine And.intro (fun h2 => ?_) (fun h2 => ?_)
      · have h2 := of_decide_eq_true h2
        rw [List.length_map] at h2
        have hltk : k < m.banks.length := by omega
        obtain ⟨bk, hbk⟩ : ∃ b, m.banks[k]? = some b := ⟨_, List.getElem?_eq_getElem hltk⟩
        obtain ⟨ak, hak⟩ : ∃ a, p.banks[k]? = some a := ⟨_, List.getElem?_eq_getElem (by omega)⟩
        obtain ⟨ba1, ba2⟩ := hat3 k ak bk hak hbk
        have hbw := (hgm.bk bk (List.mem_of_getElem? hbk)).2
        have hst : banksN F0 p m (k + 1) = pourN (banksN F0 p m k) ak.toNat bk bk.length := by
          rw [banksN]
          simp only [List.getD_eq_getElem?_getD, hak, hbk, Option.getD_some]
        have hBl := banksN_len F0 p m k
        have hBl2 := banksN_len F0 p m (k + 1)
        rw [hst] at hBl2
        generalize banksN F0 p m k = B0 at *
        first | refine Or.inl (Or.inl ?_) | refine Or.inl ?_
        refine And.intro (show wfB _ = true from by kernel_rfl) ?_
        repeat' (first
          | refine Exists.intro k (And.intro rfl (Exists.intro (intC ak) (And.intro (get_map hak) ?_)))
          | refine Exists.intro i (And.intro rfl (Exists.intro (moC m) (And.intro (get_map hm) ?_)))
          | refine Exists.intro k (And.intro rfl (Exists.intro (bankC bk) (And.intro (get_map hbk) ?_)))
          | fail)
        apply HeldC.intro
        · refine And.intro (closed_bytes _) ?_
          refine Exists.intro B0 ?_
          refine Exists.intro bk ?_
          refine Exists.intro ak.toNat ?_
          refine And.intro rfl (And.intro (List.length_map _) (And.intro (by omega) (And.intro rfl (And.intro hbw (And.intro (by omega) (And.intro (by omega) ?_))))))
          exact And.intro rfl rfl
        refine Exists.intro [] ?_
        have htk := tkL (C := byteC) (show (pourN B0 ak.toNat bk bk.length).length = (List.map byteC B0).length by rw [List.length_map]; omega)
        repeat' (first
          | refine Exists.intro [] (And.intro rfl (And.intro rfl (And.intro closed_nil ?_)))
          | refine Exists.intro _ (And.intro htk.1 (And.intro htk.2 (And.intro (closed_bytes _) ?_)))
          | refine Exists.intro _ (And.intro List.take_length (And.intro rfl (And.intro (closed_bytes _) ?_)))
          | fail)
        refine Exists.intro (m.banks.length - (k + 1)) (And.intro (by omega) ⟨k + 1, by omega, rfl, ?_, ?_⟩)
        · rw [wrap_succ hltk (by omega)]
        · rw [hst]
      have h2 := of_decide_eq_false h2
      rw [List.length_map] at h2
      have hke : k = m.banks.length := by omega
      subst hke
      rw [← hf1]
      have hF1 := flashN_len ms l (i + 1)
      generalize hFe : flashN ms l (i + 1) = F1 at *
      have hwd : IntKind.i64.wrap (p.data - 65536) = ((p.data - 65536).toNat : Int) := by rw [wrap64 (by omega)]; omega
      refine Or.inl (Or.inl ?_)
      refine And.intro (show wfB _ = true from by kernel_rfl) ?_
      apply HeldF.intro
      · refine Exists.intro (p.data - 65536).toNat (And.intro hwd (And.intro (by rw [List.length_map]; omega) (And.intro (Nat.le_refl _) ?_)))
        exact And.intro rfl rfl
      refine Exists.intro i (And.intro rfl (Exists.intro (moC m) (And.intro (get_map hm) ?_)))
      apply HeldC.intro
      · refine And.intro (by rw [List.length_map]; omega) ?_
        refine And.intro (bytes_notSl _) ?_
        refine And.intro rfl ?_
        rw [lay_eq (by omega)]
      rw [hwd]
      have hLl : (layB R0 (p.data - 65536).toNat m.data).length = R0.length := layB_len (by omega)
      have hLo : BytesOk (layB R0 (p.data - 65536).toNat m.data) := layB_ok hro (hby m (List.mem_of_getElem? hm)) _
      generalize hA : (p.data - 65536).toNat = A at *
      generalize layB R0 A m.data = R1 at *
      have hR1l : R1.length = l.ram.toNat := by omega
      refine Exists.intro true (Exists.intro [0, 3, 4, 6, 7, 8, 10, 11] (Exists.intro (fun n vs h => ∃ k : Nat, k ≤ m.rels.length ∧ n = m.rels.length - k ∧ vs = [.imm t z 8 (ms.map moC), .ptr 0 0 0 6, .ptr 1 0 0 3, .ptr 2 0 0 3, .v (.int .i64 i), .ptr 3 0 0 4, .v (.int .i64 A), .v (.int .i64 k)] ∧
        h = [.box (laI l b1 z1 b2 z2 b3 z3), .box [.sl 1 [], .sl 1 [], .sl 1 []], .box [.sl 1 (F1.map byteC), .sl 1 ((relsN R1 A p.data m.rels k).map byteC), .sl 1 []], .box [.v (.int .i64 p.text), .imm b1 false 1 (p.banks.map intC), .v (.int .i64 p.data), .v (.int .i64 p.size)]]) (And.intro ?_ ?_)))
      · refine Exists.intro [] ?_
        have htk := tkL (C := byteC) (show R1.length = (List.map byteC R0).length by rw [List.length_map]; omega)
        repeat' (first
          | refine Exists.intro [] (And.intro rfl (And.intro rfl (And.intro closed_nil ?_)))
          | refine Exists.intro _ (And.intro htk.1 (And.intro htk.2 (And.intro (closed_bytes _) ?_)))
          | refine Exists.intro _ (And.intro List.take_length (And.intro rfl (And.intro (closed_bytes _) ?_)))
          | fail)
        exact Exists.intro m.rels.length ⟨0, by omega, rfl, rfl, rfl⟩
      intro n vs h hI
      obtain ⟨k, hk1, rfl, rfl, rfl⟩ := hI
      refine Or.inl ?_
      refine Exists.intro i (And.intro rfl (Exists.intro (moC m) (And.intro (get_map hm) ?_)))
      refine And.intro (fun h2 => ?_) (fun h2 => ?_)
      · have h2 := of_decide_eq_true h2
        rw [List.length_map] at h2
        have hltk : k < m.rels.length := by omega
        obtain ⟨rk, hrk⟩ : ∃ r, m.rels[k]? = some r := ⟨_, List.getElem?_eq_getElem hltk⟩
        obtain ⟨rk0, rk4⟩ := hat6 rk (List.mem_of_getElem? hrk)
        have hst := relsN_at (r := R1) (a := A) (d := p.data) hrk
        have hQl := relsN_len R1 A p.data m.rels k
        have hQo := relsN_ok hLo A p.data m.rels k
        generalize relsN R1 A p.data m.rels k = Q0 at *
        refine Exists.intro i (And.intro rfl (Exists.intro (moC m) (And.intro (get_map hm) ?_)))
        refine Exists.intro k (And.intro rfl (Exists.intro (intC rk) (And.intro (get_map hrk) ?_)))
        have hwq : IntKind.i64.wrap ((A : Int) + rk) = ((A + rk.toNat : Nat) : Int) := by rw [wrap64 (by omega)]; omega
        have hwq4 : IntKind.i64.wrap (IntKind.i64.wrap ((A : Int) + rk) + 4) = ((A + rk.toNat + 4 : Nat) : Int) := by rw [hwq, wrap64 (by omega)]; omega
        refine Or.inl ?_
        refine And.intro (show wfB _ = true from by kernel_rfl) ?_
        apply HeldF.intro
        · refine Exists.intro (A + rk.toNat) (And.intro hwq (Exists.intro (A + rk.toNat + 4) (And.intro hwq4 (And.intro (by omega) (And.intro (by rw [List.length_map]; omega) ?_)))))
          exact And.intro rfl rfl
        apply HeldC.intro
        · refine Exists.intro _ (And.intro (low_lend (by omega)).1 (And.intro (low_lend (by omega)).2 (And.intro (closed_bytes _) ?_)))
          refine Exists.intro ((Q0.drop (A + rk.toNat)).take 4) (And.intro rfl (And.intro (low_ok hQo _) (And.intro (by rw [low_len (by omega)]; omega) ?_)))
          exact And.intro rfl rfl
        have hlb := lowAt_bd hQo (q := A + rk.toNat) (by omega)
        have hlw : IntKind.i64.wrap (lowB ((Q0.drop (A + rk.toNat)).take 4) + p.data) = lowAt Q0 (A + rk.toNat) + p.data := wrap64 (by simp only [lowAt] at hlb; omega)
        repeat' (refine And.intro (And.intro rfl rfl) ?_)
        apply HeldC.intro
        · refine And.intro (by rw [hlw]; simp only [I64]; omega) ?_
          rw [hlw]
          exact And.intro rfl rfl
        repeat' (refine And.intro (And.intro rfl rfl) ?_)
        apply HeldC.intro
        · refine And.intro (closed_bytes _) ?_
          refine Exists.intro Q0 ?_
          refine Exists.intro (A + rk.toNat) ?_
          refine Exists.intro (4 : Nat) ?_
          refine And.intro rfl (And.intro (List.length_map _) (And.intro hwq (And.intro rfl (And.intro (by omega) (And.intro (by omega) (And.intro (by omega) (And.intro (by omega) (And.intro (by omega) ?_))))))))
          rw [← hst]
          exact And.intro rfl rfl
        repeat' (refine And.intro (And.intro rfl rfl) ?_)
        refine Exists.intro [] ?_
        have hN1 := relsN_len R1 A p.data m.rels (k + 1)
        have htk := tkL (C := byteC) (show (relsN R1 A p.data m.rels (k + 1)).length = (List.map byteC Q0).length by rw [List.length_map]; omega)
        repeat' (first
          | refine Exists.intro [] (And.intro rfl (And.intro rfl (And.intro closed_nil ?_)))
          | refine Exists.intro _ (And.intro htk.1 (And.intro htk.2 (And.intro (closed_bytes _) ?_)))
          | refine Exists.intro _ (And.intro List.take_length (And.intro rfl (And.intro (closed_bytes _) ?_)))
          | fail)
        refine Exists.intro (m.rels.length - (k + 1)) (And.intro (by omega) ⟨k + 1, by omega, rfl, ?_, rfl⟩)
        rw [wrap_succ hltk (by omega)]
      have h2 := of_decide_eq_false h2
      rw [List.length_map] at h2
      have hke : k = m.rels.length := by omega
      subst hke
      refine Exists.intro [] ?_
      refine Exists.intro (ms.length - (i + 1)) (And.intro (by omega) ⟨i + 1, by omega, rfl, ?_, ?_⟩)
      · rw [wrap_succ hlt (by omega)]
      · rw [hFe, hr1]
    · have h1 := of_decide_eq_false h1
      rw [List.length_map] at h1
      have hie : i = ms.length := by omega
      subst hie
      refine And.intro (closed_bytes _) ?_
      refine And.intro (closed_bytes _) ?_
      refine And.intro closed_nil ?_
      rw [List.length_map, List.length_map]
      exact fin_im hp (img_y hr)
  · exact hp.elim
end Go.Proofs.YtbfjkjdbdejnmaaGreat.Ab

/- Images of impl. No condition. -/
namespace Go.Proofs.YtbfjkjdbdejnmaaGreat.Ab
set_option linter.unusedVariables false
set_option linter.unusedSimpArgs false
set_option maxRecDepth 100000

theorem low_lend2 {Q : List Int} {o n : Nat} (h : o + 4 ≤ Q.length) (hn : n = 4) : List.take n (List.drop o (Q.map byteC)) = ((Q.drop o).take 4).map byteC ∧ (((Q.drop o).take 4).map byteC).length = n := by
  subst hn
  rw [List.map_take, List.map_drop]
  refine ⟨rfl, ?_⟩
  simp only [List.length_take, List.length_drop, List.length_map]
  omega
def hImg : CH := fun args hl K => match args, hl with
  | [.imm _ _ 8 L, a], [] => ∃ (ms : List Mo) (l : La), L = ms.map moC ∧ (∀ m ∈ ms, BytesOk m.data) ∧ LaV a l ∧ Lim ms l ∧
      K (.agg [.slc 0 0 (flashN ms l ms.length).length false, .slc 1 0 (ramN ms l ms.length).length false, .slc 2 0 0 false]) [.lst 1 ((flashN ms l ms.length).map byteC), .lst 1 ((ramN ms l ms.length).map byteC), .lst 1 []]
  | _, _ => False
def cx_s_image : Ctx := mkCut [(112, callM [] true hNum), (111, callM [.rw] false hPut4), (110, callM [.ro, .ro, .rw] false hPourC)]
theorem cx_s_image_ok : CtxOk Tryz.prog cx_s_image := mkCut_ok (mem1 ⟨s_number, fnOk Tryz.func112 rfl rfl⟩ (mem1 ⟨s_put, fnOk Tryz.func111 rfl rfl⟩ (mem1 ⟨s_pourC, fnOk Tryz.func110 rfl rfl⟩ mem0)))
set_option maxRecDepth 100000 in
set_option pp.maxSteps 1500 in
set_option maxHeartbeats 32000000 in
theorem s_image : HSound Tryz.prog 53 (callM [] true hImg) := by
  refine callM_sound cx_s_image_ok mixed Tryz.func53 rfl fun args hl K hp => ?_
  unfold hImg at hp
  split at hp
  · rename_i t z L a
    obtain ⟨ms, l, rfl, hby, ⟨b1, z1, b2, z2, b3, z3, rfl⟩, hlim, hp⟩ := hp
    have hlen := hlim.len
    have hfl := hlim.fl
    have hrm := hlim.ram
    refine Or.inr (Exists.intro true (Exists.intro [0, 3, 4, 5] (Exists.intro (fun vs h => vs = [.imm t z 8 (ms.map moC), .ptr 0 0 0 6, .ptr 1 0 0 3, .ptr 2 0 0 3] ∧ h = [.box (laI l b1 z1 b2 z2 b3 z3), .box [.sl 1 [], .sl 1 [], .sl 1 []], .box [.sl 1 (List.replicate l.flash.toNat (byteC 0)), .sl 1 (List.replicate l.ram.toNat (byteC 0)), .sl 1 []]]) (And.intro ?_ ?_))))
    · refine Or.inl ?_
      refine And.intro (show wfB _ = true from by kernel_rfl) ?_
      repeat' (first
        | (refine Exists.intro l.flash.toNat ?_; refine And.intro (by omega) ?_; refine And.intro (by omega) ?_; refine And.intro (by simp only; omega) ?_; exact And.intro rfl rfl)
        | (refine Exists.intro l.ram.toNat ?_; refine And.intro (by omega) ?_; refine And.intro (by omega) ?_; refine And.intro (by simp only; omega) ?_; exact And.intro rfl rfl)
        | refine And.intro (show wfB _ = true from by kernel_rfl) ?_ | refine And.intro (And.intro rfl rfl) ?_ | exact And.intro rfl rfl | apply HeldC.intro | exact AV.top | (apply HeldF.intro; refine Exists.intro _ (And.intro (by assumption) ?_); refine And.intro (by decide) ?_; exact And.intro rfl rfl) | (refine And.intro (by (refine Exists.intro _ (And.intro (by assumption) ?_); refine And.intro (by decide) ?_; exact And.intro rfl rfl)) ?_) | refine Or.inl ?_
        | refine And.intro ?_ ?_
        | fail)
      all_goals refine Exists.intro [] ?_
      all_goals repeat' (first
        | refine Exists.intro [] (And.intro rfl (And.intro rfl (And.intro closed_nil ?_)))
        | refine Exists.intro (List.replicate l.flash.toNat (byteC 0)) (And.intro (rep_take _ _) (And.intro List.length_replicate (And.intro (closed_rep _) ?_)))
        | refine Exists.intro (List.replicate l.ram.toNat (byteC 0)) (And.intro (rep_take _ _) (And.intro List.length_replicate (And.intro (closed_rep _) ?_)))
        | fail)
      all_goals exact And.intro rfl rfl
    rintro vs h ⟨rfl, rfl⟩
    have hf0 : List.replicate l.flash.toNat (byteC 0) = (flashN ms l 0).map byteC := by rw [flashN, List.map_replicate]
    have hr0 : List.replicate l.ram.toNat (byteC 0) = (ramN ms l 0).map byteC := by rw [ramN, List.map_replicate]
    rw [hf0, hr0]
    clear hf0 hr0
    refine Exists.intro true (Exists.intro [0, 3, 4, 5, 6, 23, 24] (Exists.intro (fun n vs h => ∃ i : Nat, i ≤ ms.length ∧ n = ms.length - i ∧ vs = [.imm t z 8 (ms.map moC), .ptr 0 0 0 6, .ptr 1 0 0 3, .ptr 2 0 0 3, .fn 110 [.ptr 2 0 0 3], .v (.int .i64 ms.length), .v (.int .i64 i)] ∧ h = [.box (laI l b1 z1 b2 z2 b3 z3), .box [.sl 1 [], .sl 1 [], .sl 1 []], .box [.sl 1 ((flashN ms l i).map byteC), .sl 1 ((ramN ms l i).map byteC), .sl 1 []]]) (And.intro ?_ ?_)))
    · refine Exists.intro [] ?_
      refine Exists.intro ms.length ⟨0, by omega, rfl, ?_, rfl⟩
      rw [List.length_map]
      rfl
    intro n vs h hI
    obtain ⟨i, hi, rfl, rfl, rfl⟩ := hI
    refine Or.inl ?_
    refine And.intro (fun h1 => ?_) (fun h1 => ?_)
    · have h1 := of_decide_eq_true h1
      have hlt : i < ms.length := by omega
      obtain ⟨m, hm⟩ : ∃ m, ms[i]? = some m := ⟨_, List.getElem?_eq_getElem hlt⟩
      obtain ⟨p, hpl⟩ : ∃ p, l.pls[i]? = some p := ⟨_, List.getElem?_eq_getElem (by rw [hlim.pls]; omega)⟩
      obtain ⟨⟨at1, at2⟩, hbn, hat3, ⟨at4, at5⟩, hat6, hgm⟩ := hlim.at' i p m hpl hm
      have hml := hgm.bl
      have hrl := hgm.rl
      have hdl := hgm.dl
      have hfN := flashN_len ms l i
      have hrN := ramN_len hlim i
      refine Exists.intro i (And.intro rfl (Exists.intro (plC p) (And.intro (get_map hpl) ?_)))
      refine Or.inl (Or.inl ?_)
      refine And.intro (show wfB _ = true from by kernel_rfl) ?_
      refine Exists.intro i (And.intro rfl (Exists.intro (moC m) (And.intro (get_map hm) ?_)))
      apply HeldC.intro
      · repeat' (first
          | refine Exists.intro [] (And.intro rfl (And.intro rfl (And.intro closed_nil ?_)))
          | refine Exists.intro _ (And.intro List.take_length (And.intro rfl (And.intro (closed_bytes _) ?_)))
          | fail)
        refine Exists.intro (flashN ms l i) ?_
        refine Exists.intro m.text ?_
        refine Exists.intro p.text.toNat ?_
        refine And.intro rfl (And.intro (by omega) (And.intro rfl (And.intro hgm.tw (And.intro (by omega) (And.intro (by omega) ?_)))))
        exact And.intro rfl rfl
      have hF0 : (pourN (flashN ms l i) p.text.toNat m.text m.text.length).length = l.flash.toNat := by rw [pourN_len, hfN]
      have hf1 : flashN ms l (i + 1) = banksN (pourN (flashN ms l i) p.text.toNat m.text m.text.length) p m m.banks.length := by rw [flashN, hm, hpl]
      have hr1 : ramN ms l (i + 1) = relsN (layB (ramN ms l i) (p.data - 65536).toNat m.data) (p.data - 65536).toNat p.data m.rels m.rels.length := by rw [ramN, hm, hpl]
      have hro := ramN_ok hby l i
      generalize pourN (flashN ms l i) p.text.toNat m.text m.text.length = F0 at *
      generalize ramN ms l i = R0 at *
      refine Exists.intro i (And.intro rfl (Exists.intro (moC m) (And.intro (get_map hm) ?_)))
      refine Exists.intro true (Exists.intro [0, 3, 4, 5, 6, 7, 8, 23, 24, 45, 46, 47] (Exists.intro (fun n vs h => ∃ k : Nat, k ≤ m.banks.length ∧ n = m.banks.length - k ∧ vs = [.imm t z 8 (ms.map moC), .ptr 0 0 0 6, .ptr 1 0 0 3, .ptr 2 0 0 3, .fn 110 [.ptr 2 0 0 3], .v (.int .i64 i), .ptr 3 0 0 4, .v (.int .i64 ms.length), .v (.int .i64 i), .imm t false 1 (m.banks.map bankC), .v (.int .i64 m.banks.length), .v (.int .i64 k)] ∧
        h = [.box (laI l b1 z1 b2 z2 b3 z3), .box [.sl 1 [], .sl 1 [], .sl 1 []], .box [.sl 1 ((banksN F0 p m k).map byteC), .sl 1 (R0.map byteC), .sl 1 []], .box [.v (.int .i64 p.text), .imm b1 false 1 (p.banks.map intC), .v (.int .i64 p.data), .v (.int .i64 p.size)]]) (And.intro ?_ ?_)))
      · refine Exists.intro [] ?_
        repeat' (first
          | refine Exists.intro [] (And.intro rfl (And.intro rfl (And.intro closed_nil ?_)))
          | refine Exists.intro _ (And.intro List.take_length (And.intro rfl (And.intro (closed_bytes _) ?_)))
          | fail)
        refine Exists.intro m.banks.length ⟨0, by omega, rfl, ?_, rfl⟩
        rw [List.length_map]
        rfl
      intro n vs h hI
      obtain ⟨k, hk1, rfl, rfl, rfl⟩ := hI
      refine Or.inl ?_
      refine And.intro (fun h2 => ?_) (fun h2 => ?_)
      · have h2 := of_decide_eq_true h2
        have hltk : k < m.banks.length := by omega
        obtain ⟨bk, hbk⟩ : ∃ b, m.banks[k]? = some b := ⟨_, List.getElem?_eq_getElem hltk⟩
        obtain ⟨ak, hak⟩ : ∃ a, p.banks[k]? = some a := ⟨_, List.getElem?_eq_getElem (by omega)⟩
        obtain ⟨ba1, ba2⟩ := hat3 k ak bk hak hbk
        have hbw := (hgm.bk bk (List.mem_of_getElem? hbk)).2
        have hst : banksN F0 p m (k + 1) = pourN (banksN F0 p m k) ak.toNat bk bk.length := by
          rw [banksN]
          simp only [List.getD_eq_getElem?_getD, hak, hbk, Option.getD_some]
        have hBl := banksN_len F0 p m k
        generalize banksN F0 p m k = B0 at *
        refine Exists.intro k (And.intro rfl (Exists.intro (bankC bk) (And.intro (get_map hbk) ?_)))
        refine Exists.intro k (And.intro rfl (Exists.intro (intC ak) (And.intro (get_map hak) ?_)))
        repeat' (first
          | refine Exists.intro [] (And.intro rfl (And.intro rfl (And.intro closed_nil ?_)))
          | refine Exists.intro _ (And.intro List.take_length (And.intro rfl (And.intro (closed_bytes _) ?_)))
          | fail)
        refine Exists.intro B0 ?_
        refine Exists.intro bk ?_
        refine Exists.intro ak.toNat ?_
        refine And.intro rfl (And.intro (by omega) (And.intro rfl (And.intro hbw (And.intro (by omega) (And.intro (by omega) ?_)))))
        refine Exists.intro [] ?_
        refine Exists.intro (m.banks.length - (k + 1)) (And.intro (by omega) ⟨k + 1, by omega, rfl, ?_, ?_⟩)
        · rw [wrap_succ hltk (by omega)]
        · rw [hst]
      have h2 := of_decide_eq_false h2
      have hke : k = m.banks.length := by omega
      subst hke
      rw [← hf1]
      have hF1 := flashN_len ms l (i + 1)
      generalize hFe : flashN ms l (i + 1) = F1 at *
      have hwd : IntKind.i64.wrap (p.data - 65536) = ((p.data - 65536).toNat : Int) := by rw [wrap64 (by omega)]; omega
      refine Exists.intro (p.data - 65536).toNat (And.intro hwd (And.intro (by rw [List.length_map]; omega) (And.intro (Nat.le_refl _) ?_)))
      refine Exists.intro i (And.intro rfl (Exists.intro (moC m) (And.intro (get_map hm) ?_)))
      refine And.intro (by rw [List.length_map]; omega) ?_
      refine And.intro (bytes_notSl _) ?_
      have hly := lay_eq (R := R0) (D := m.data) (a := (p.data - 65536).toNat) (by omega)
      conv => whnf
      rw [hly]
      clear hly
      have hLl : (layB R0 (p.data - 65536).toNat m.data).length = R0.length := layB_len (by omega)
      have hLo : BytesOk (layB R0 (p.data - 65536).toNat m.data) := layB_ok hro (hby m (List.mem_of_getElem? hm)) _
      have hR0l : (List.map byteC R0).length = l.ram.toNat := by rw [List.length_map, hrN]
      rw [hR0l]
      generalize hA : (p.data - 65536).toNat = A at *
      generalize layB R0 A m.data = R1 at *
      have hR1l : R1.length = l.ram.toNat := by omega
      refine Exists.intro i (And.intro rfl (Exists.intro (moC m) (And.intro (get_map hm) ?_)))
      refine Exists.intro false (Exists.intro [0, 3, 4, 5, 6, 8, 11, 23, 24, 78, 79, 80] (Exists.intro (fun n vs h => ∃ k : Nat, k ≤ m.rels.length ∧ n = m.rels.length - k ∧ vs = [.imm t z 8 (ms.map moC), .ptr 0 0 0 6, .ptr 1 0 0 3, .ptr 2 0 0 3, .fn 110 [.ptr 2 0 0 3], .ptr 3 0 0 4, .slc 4 A (l.ram.toNat - A) false, .v (.int .i64 ms.length), .v (.int .i64 i), .imm t false 1 (m.rels.map intC), .v (.int .i64 m.rels.length), .v (.int .i64 k)] ∧
        ((k = 0 ∧ h = [.box (laI l b1 z1 b2 z2 b3 z3), .box [.sl 1 [], .sl 1 [], .sl 1 []], .box [.sl 1 (F1.map byteC), .slc 4 0 l.ram.toNat false, .sl 1 []], .box [.v (.int .i64 p.text), .imm b1 false 1 (p.banks.map intC), .v (.int .i64 p.data), .v (.int .i64 p.size)], .lst 1 ((relsN R1 A p.data m.rels k).map byteC)]) ∨ h = [.box (laI l b1 z1 b2 z2 b3 z3), .box [.slc 5 0 0 false, .slc 6 0 0 false, .slc 7 0 0 false], .box [.slc 8 0 (F1.map byteC).length false, .slc 4 0 l.ram.toNat false, .slc 9 0 0 false], .box [.v (.int .i64 p.text), .imm b1 false 1 (p.banks.map intC), .v (.int .i64 p.data), .v (.int .i64 p.size)], .lst 1 ((relsN R1 A p.data m.rels k).map byteC), .lst 1 [], .lst 1 [], .lst 1 [], .lst 1 (F1.map byteC), .lst 1 []])) (And.intro ?_ ?_)))
      · refine Exists.intro m.rels.length ⟨0, by omega, rfl, ?_, Or.inl ⟨rfl, rfl⟩⟩
        rw [Nat.zero_add, List.length_map]
        rfl
      intro n vs h hI
      obtain ⟨k, hk1, rfl, rfl, hI⟩ := hI
      rcases hI with ⟨hk0, rfl⟩ | rfl
      · refine Or.inl ?_
        refine And.intro (fun h2 => ?_) (fun h2 => ?_)
        · have h2 := of_decide_eq_true h2
          have hltk : k < m.rels.length := by omega
          obtain ⟨rk, hrk⟩ : ∃ r, m.rels[k]? = some r := ⟨_, List.getElem?_eq_getElem hltk⟩
          obtain ⟨rk0, rk4⟩ := hat6 rk (List.mem_of_getElem? hrk)
          have hst := relsN_at (r := R1) (a := A) (d := p.data) hrk
          have hQl := relsN_len R1 A p.data m.rels k
          have hQo := relsN_ok hLo A p.data m.rels k
          generalize relsN R1 A p.data m.rels k = Q0 at *
          refine Exists.intro k (And.intro rfl (Exists.intro (intC rk) (And.intro (get_map hrk) ?_)))
          have hwq : rk = ((rk.toNat : Nat) : Int) := by omega
          have hwq4 : IntKind.i64.wrap (rk + 4) = ((rk.toNat + 4 : Nat) : Int) := by rw [wrap64 (by omega)]; omega
          refine Or.inl ?_
          refine And.intro (show wfB _ = true from by kernel_rfl) ?_
          apply HeldF.intro
          · refine Exists.intro rk.toNat (And.intro hwq (Exists.intro (rk.toNat + 4) (And.intro hwq4 (And.intro (by omega) (And.intro (by omega) ?_)))))
            exact And.intro rfl rfl
          apply HeldF.intro
          · refine Exists.intro rk.toNat (And.intro hwq (Exists.intro (rk.toNat + 4) (And.intro hwq4 (And.intro (by omega) (And.intro (by omega) ?_)))))
            exact And.intro rfl rfl
          apply HeldC.intro
          · refine Exists.intro _ (And.intro (low_lend2 (Q := Q0) (o := A + rk.toNat) (by omega) (by omega)).1 (And.intro (low_lend2 (Q := Q0) (o := A + rk.toNat) (by omega) (by omega)).2 (And.intro (closed_bytes _) ?_)))
            refine Exists.intro ((Q0.drop (A + rk.toNat)).take 4) (And.intro rfl (And.intro (low_ok hQo _) (And.intro (Or.inr (Or.inr (low_len (by omega)))) ?_)))
            exact And.intro rfl rfl
          have hlb := lowAt_bd hQo (q := A + rk.toNat) (by omega)
          have hlw : IntKind.i64.wrap (lowB ((Q0.drop (A + rk.toNat)).take 4) + p.data) = lowAt Q0 (A + rk.toNat) + p.data := wrap64 (by simp only [lowAt] at hlb; omega)
          rw [putY_mod _ _ _ 4 (by omega)] at hst
          repeat' (first
            | refine And.intro (And.intro rfl rfl) ?_
            | refine And.intro (by (refine Exists.intro rk.toNat (And.intro hwq (Exists.intro (rk.toNat + 4) (And.intro hwq4 (And.intro (by omega) (And.intro (by omega) ?_))))); exact And.intro rfl rfl)) ?_
            | fail)
          apply HeldC.intro
          · refine And.intro (closed_bytes _) ?_
            refine Exists.intro Q0 (And.intro rfl (And.intro (by omega) (And.intro (by omega) ?_)))
            rw [hlw, ← hst]
            exact And.intro rfl rfl
          repeat' (refine And.intro (And.intro rfl rfl) ?_)
          refine Exists.intro (m.rels.length - (k + 1)) (And.intro (by omega) ⟨k + 1, by omega, rfl, ?_, Or.inr rfl⟩)
          rw [wrap_succ hltk (by omega)]
        · have h2 := of_decide_eq_false h2
          have hke : k = m.rels.length := by omega
          subst hke
          refine Exists.intro [] ?_
          have hN1 := relsN_len R1 A p.data m.rels m.rels.length
          have htk := tkL (C := byteC) (show (relsN R1 A p.data m.rels m.rels.length).length = l.ram.toNat by omega)
          repeat' (first
            | refine Exists.intro [] (And.intro rfl (And.intro rfl (And.intro closed_nil ?_)))
            | refine Exists.intro _ (And.intro htk.1 (And.intro htk.2 (And.intro (closed_bytes _) ?_)))
            | refine Exists.intro _ (And.intro List.take_length (And.intro rfl (And.intro (closed_bytes _) ?_)))
            | fail)
          refine Exists.intro (ms.length - (i + 1)) (And.intro (by omega) ⟨i + 1, by omega, rfl, ?_, ?_⟩)
          · rw [wrap_succ hlt (by omega)]
          · rw [hFe, hr1]
      · refine Or.inl ?_
        refine And.intro (fun h2 => ?_) (fun h2 => ?_)
        · have h2 := of_decide_eq_true h2
          have hltk : k < m.rels.length := by omega
          obtain ⟨rk, hrk⟩ : ∃ r, m.rels[k]? = some r := ⟨_, List.getElem?_eq_getElem hltk⟩
          obtain ⟨rk0, rk4⟩ := hat6 rk (List.mem_of_getElem? hrk)
          have hst := relsN_at (r := R1) (a := A) (d := p.data) hrk
          have hQl := relsN_len R1 A p.data m.rels k
          have hQo := relsN_ok hLo A p.data m.rels k
          generalize relsN R1 A p.data m.rels k = Q0 at *
          refine Exists.intro k (And.intro rfl (Exists.intro (intC rk) (And.intro (get_map hrk) ?_)))
          have hwq : rk = ((rk.toNat : Nat) : Int) := by omega
          have hwq4 : IntKind.i64.wrap (rk + 4) = ((rk.toNat + 4 : Nat) : Int) := by rw [wrap64 (by omega)]; omega
          refine Or.inl ?_
          refine And.intro (show wfB _ = true from by kernel_rfl) ?_
          apply HeldF.intro
          · refine Exists.intro rk.toNat (And.intro hwq (Exists.intro (rk.toNat + 4) (And.intro hwq4 (And.intro (by omega) (And.intro (by omega) ?_)))))
            exact And.intro rfl rfl
          apply HeldF.intro
          · refine Exists.intro rk.toNat (And.intro hwq (Exists.intro (rk.toNat + 4) (And.intro hwq4 (And.intro (by omega) (And.intro (by omega) ?_)))))
            exact And.intro rfl rfl
          apply HeldC.intro
          · refine Exists.intro _ (And.intro (low_lend2 (Q := Q0) (o := A + rk.toNat) (by omega) (by omega)).1 (And.intro (low_lend2 (Q := Q0) (o := A + rk.toNat) (by omega) (by omega)).2 (And.intro (closed_bytes _) ?_)))
            refine Exists.intro ((Q0.drop (A + rk.toNat)).take 4) (And.intro rfl (And.intro (low_ok hQo _) (And.intro (Or.inr (Or.inr (low_len (by omega)))) ?_)))
            exact And.intro rfl rfl
          have hlb := lowAt_bd hQo (q := A + rk.toNat) (by omega)
          have hlw : IntKind.i64.wrap (lowB ((Q0.drop (A + rk.toNat)).take 4) + p.data) = lowAt Q0 (A + rk.toNat) + p.data := wrap64 (by simp only [lowAt] at hlb; omega)
          rw [putY_mod _ _ _ 4 (by omega)] at hst
          repeat' (first
            | refine And.intro (And.intro rfl rfl) ?_
            | refine And.intro (by (refine Exists.intro rk.toNat (And.intro hwq (Exists.intro (rk.toNat + 4) (And.intro hwq4 (And.intro (by omega) (And.intro (by omega) ?_))))); exact And.intro rfl rfl)) ?_
            | fail)
          apply HeldC.intro
          · refine And.intro (closed_bytes _) ?_
            refine Exists.intro Q0 (And.intro rfl (And.intro (by omega) (And.intro (by omega) ?_)))
            rw [hlw, ← hst]
            exact And.intro rfl rfl
          repeat' (refine And.intro (And.intro rfl rfl) ?_)
          refine Exists.intro (m.rels.length - (k + 1)) (And.intro (by omega) ⟨k + 1, by omega, rfl, ?_, Or.inr rfl⟩)
          rw [wrap_succ hltk (by omega)]
        · have h2 := of_decide_eq_false h2
          have hke : k = m.rels.length := by omega
          subst hke
          refine Exists.intro [] ?_
          have hN1 := relsN_len R1 A p.data m.rels m.rels.length
          have htk := tkL (C := byteC) (show (relsN R1 A p.data m.rels m.rels.length).length = l.ram.toNat by omega)
          repeat' (first
            | refine Exists.intro [] (And.intro rfl (And.intro rfl (And.intro closed_nil ?_)))
            | refine Exists.intro _ (And.intro htk.1 (And.intro htk.2 (And.intro (closed_bytes _) ?_)))
            | refine Exists.intro _ (And.intro List.take_length (And.intro rfl (And.intro (closed_bytes _) ?_)))
            | fail)
          refine Exists.intro (ms.length - (i + 1)) (And.intro (by omega) ⟨i + 1, by omega, rfl, ?_, ?_⟩)
          · rw [wrap_succ hlt (by omega)]
          · rw [hFe, hr1]
    · have h1 := of_decide_eq_false h1
      have hie : i = ms.length := by omega
      subst hie
      refine And.intro (closed_bytes _) ?_
      refine And.intro (closed_bytes _) ?_
      refine And.intro closed_nil ?_
      rw [List.length_map, List.length_map]
      exact hp
  · exact hp.elim
end Go.Proofs.YtbfjkjdbdejnmaaGreat.Ab

/- Images of impl: Image. No condition. -/
namespace Go.Proofs.YtbfjkjdbdejnmaaGreat.Ab
set_option linter.unusedVariables false
set_option linter.unusedSimpArgs false
set_option maxRecDepth 100000

end Go.Proofs.YtbfjkjdbdejnmaaGreat.Ab
