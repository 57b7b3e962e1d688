/- Functions walked, part 12. No condition. -/
import Derived.Test.YtbfjkjdbdejnmaaGreatWalk3
import Derived.Test.YtbfjkjdbdejnmaaGreatWalk11
import Derived.Test.YtbfjkjdbdejnmaaGreatWalk10
import Derived.Test.YtbfjkjdbdejnmaaGreatWalk8
set_option linter.unusedVariables false
set_option linter.unusedSimpArgs false
/- What a law's arguments are: modules. No condition. -/
namespace Go.Proofs.YtbfjkjdbdejnmaaGreat.Ab
set_option maxRecDepth 100000

theorem list_sh {β : Type} {C : β → List AV} {Q : β → Prop} {S : List AV → Prop} (h : ∀ el, S el → ∃ b, el = C b ∧ Q b) : ∀ (ll : List (List AV)), (∀ el ∈ ll, S el) → ∃ bs : List β, ll = bs.map C ∧ ∀ b ∈ bs, Q b
  | [], _ => ⟨[], rfl, fun _ h => by cases h⟩
  | el :: ll, hl => by
    obtain ⟨bs, rfl, hb⟩ := list_sh h ll fun e he => hl e (List.mem_cons_of_mem _ he)
    obtain ⟨b, rfl, hq⟩ := h el (hl _ List.mem_cons_self)
    refine ⟨b :: bs, rfl, fun x hx => ?_⟩
    rcases List.mem_cons.1 hx with rfl | hx
    · exact hq
    · exact hb x hx
theorem sh_slice {n : Nat} {t e : TypeId} {k : Nat} {β : Type} {C : β → List AV} {Q : β → Prop} {c : List AV} (ht : Tryz.prog.underlying t = some (.slice e)) (hk : Tryz.prog.cellsOf e = k) (h : ∀ el, Sh Tryz.prog n e el → ∃ b, el = C b ∧ Q b)
    (hs : Sh Tryz.prog (n + 1) t c) : ∃ bs : List β, c = [.sl k (bs.map C)] ∧ (∀ b ∈ bs, Q b) ∧ bs.length ≤ maxLen := by
  unfold Sh at hs
  simp only [ht, hk] at hs
  obtain ⟨l1, rfl, t1, _, m1⟩ := hs
  obtain ⟨bs, rfl, hb⟩ := list_sh h l1 t1
  exact ⟨bs, rfl, hb, by simpa using m1⟩
theorem sh_intC {n : Nat} (el : List AV) (hs : Sh Tryz.prog (n + 1) 3 el) : ∃ a, el = intC a ∧ I64 a := by
  simp only [Sh, Tryz.underlying3] at hs
  obtain ⟨w, rfl, hw⟩ := hs
  exact ⟨w, rfl, wf_i64 hw⟩
theorem sh_str {n : Nat} (el : List AV) (hs : Sh Tryz.prog (n + 1) 9 el) : ∃ s, el = strC s ∧ bigStr s := by
  simp only [Sh, Tryz.underlying9] at hs
  obtain ⟨w, rfl, hw⟩ := hs
  exact ⟨w, rfl, hw⟩
theorem sh_intS {n : Nat} (el : List AV) (hs : Sh Tryz.prog (n + 2) 24 el) : ∃ b, el = bankC b ∧ (∀ x ∈ b, I64 x) ∧ bigBank b := by
  obtain ⟨bs, rfl, h1, h2⟩ := sh_slice Tryz.underlying24 (show Tryz.prog.cellsOf 3 = 1 by kernel_rfl) sh_intC hs
  exact ⟨bs, rfl, h1, h2⟩
theorem sh_ex {n : Nat} (el : List AV) (hs : Sh Tryz.prog (n + 2) 207 el) : ∃ e, el = exC e ∧ bigEx e ∧ I64 e.bank ∧ I64 e.pos := by
  unfold Sh at hs
  simp only [Tryz.underlying207] at hs
  obtain ⟨_, _, rfl, s1, _, _, rfl, s2, _, _, rfl, s3, rfl⟩ := hs
  obtain ⟨a, rfl, ha⟩ := sh_str _ s1
  obtain ⟨b, rfl, hb⟩ := sh_intC _ s2
  obtain ⟨c, rfl, hc⟩ := sh_intC _ s3
  exact ⟨⟨a, b, c⟩, rfl, ha, hb, hc⟩
structure OkMo (m : Mo) : Prop where
  big : bigMo m
  text : ∀ x ∈ m.text, I64 x
  banks : ∀ b ∈ m.banks, ∀ x ∈ b, I64 x
  data : BytesOk m.data
  bss : I64 m.bss
  rels : ∀ x ∈ m.rels, I64 x
  exps : ∀ e ∈ m.exps, I64 e.bank ∧ I64 e.pos
theorem sh_mo {n : Nat} (el : List AV) (hs : Sh Tryz.prog (n + 4) 85 el) : ∃ m, el = moC m ∧ OkMo m := by
  unfold Sh at hs
  simp only [Tryz.underlying85] at hs
  obtain ⟨_, _, rfl, s1, _, _, rfl, s2, _, _, rfl, s3, _, _, rfl, s4, _, _, rfl, s5, _, _, rfl, s6, _, _, rfl, s7, _, _, rfl, s8, rfl⟩ := hs
  obtain ⟨a1, rfl, h1⟩ := sh_str _ s1
  obtain ⟨a2, rfl, h2, g2⟩ := sh_intS _ s2
  obtain ⟨a3, rfl, h3, g3⟩ := sh_slice Tryz.underlying81 (show Tryz.prog.cellsOf 24 = 1 by kernel_rfl) sh_intS s3
  obtain ⟨a4, rfl, h4, g4⟩ := sh_byteS Tryz.underlying41 s4
  obtain ⟨a5, rfl, h5⟩ := sh_intC _ s5
  obtain ⟨a6, rfl, h6, g6⟩ := sh_intS _ s6
  obtain ⟨a7, rfl, h7, g7⟩ := sh_slice Tryz.underlying82 (show Tryz.prog.cellsOf 9 = 1 by kernel_rfl) sh_str s7
  obtain ⟨a8, rfl, h8, g8⟩ := sh_slice Tryz.underlying83 (show Tryz.prog.cellsOf 207 = 3 by kernel_rfl) sh_ex s8
  exact ⟨⟨a1, a2, a3, a4, a5, a6, a7, a8⟩, rfl, ⟨h1, g2, g3, fun b hb => (h3 b hb).2, g4, g6, g7, h7, g8, fun e he => (h8 e he).1⟩, h2, fun b hb => (h3 b hb).1, h4, h5, h6, fun e he => (h8 e he).2⟩
theorem arg_mo {n : Nat} {c : List AV} {x : AV} (hs : Sh Tryz.prog (n + 4) 85 c) (ha : ArgOf Tryz.prog 85 c x) : ∃ m, MoV x m ∧ OkMo m := by
  simp only [ArgOf, Tryz.underlying85] at ha
  obtain ⟨m, rfl, hm⟩ := sh_mo _ hs
  exact ⟨m, ⟨_, _, _, _, _, _, _, _, _, _, _, _, ha⟩, hm⟩
theorem arg_moS {n : Nat} {c : List AV} {x : AV} (hs : Sh Tryz.prog (n + 5) 22 c) (ha : ArgOf Tryz.prog 22 c x) : ∃ ms : List Mo, x = .imm false false 8 (ms.map moC) ∧ (∀ m ∈ ms, OkMo m) ∧ ms.length ≤ maxLen := by
  obtain ⟨ms, rfl, h1, h2⟩ := sh_slice Tryz.underlying22 (show Tryz.prog.cellsOf 85 = 8 by kernel_rfl) sh_mo hs
  simp only [ArgOf, Tryz.underlying22] at ha
  obtain ⟨a, ha, rfl⟩ := ha
  cases ha
  exact ⟨ms, rfl, h1, h2⟩
theorem arg_str {n : Nat} {c : List AV} {x : AV} (hs : Sh Tryz.prog (n + 1) 9 c) (ha : ArgOf Tryz.prog 9 c x) : ∃ s, x = .v (.string s) ∧ bigStr s := by
  obtain ⟨s, rfl, h1⟩ := sh_str _ hs
  simp only [ArgOf, Tryz.underlying9] at ha
  obtain ⟨a, ha, rfl⟩ := ha
  cases ha
  exact ⟨s, rfl, h1⟩
end Go.Proofs.YtbfjkjdbdejnmaaGreat.Ab

/- Link: the law. No condition. -/
namespace Go.Proofs.YtbfjkjdbdejnmaaGreat.Ab
set_option linter.unusedVariables false
set_option linter.unusedSimpArgs false
set_option maxRecDepth 100000

def hToCfg : CH := fun args hl K => match args, hl with
  | [.agg [.v (.int .i64 a), .v (.int .i64 b), .v (.int .i64 c), .v (.int .i64 d)]], [] => K (.agg [.v (.int .i64 a), .v (.int .i64 b), .v (.int .i64 c), .v (.int .i64 d)]) []
  | _, _ => False
def cx_s_toConfig : Ctx := mkC []
theorem cx_s_toConfig_ok : CtxOk Tryz.prog cx_s_toConfig := cx0_ok
set_option maxRecDepth 100000 in
set_option pp.maxSteps 1500 in
theorem s_toConfig : HSound Tryz.prog 72 (callM [] false hToCfg) := by
  refine callM_sound cx_s_toConfig_ok mixed Tryz.func72 rfl fun args hl K hp => ?_
  unfold hToCfg at hp
  split at hp
  · exact hp
  · exact hp.elim
theorem arg_cfg {n : Nat} {c : List AV} {x : AV} (hs : Sh Tryz.prog (n + 2) 61 c) (ha : ArgOf Tryz.prog 61 c x) : ∃ a b d e : Int, x = .agg [.v (.int .i64 a), .v (.int .i64 b), .v (.int .i64 d), .v (.int .i64 e)] := by
  simp only [ArgOf, Tryz.underlying61] at ha
  unfold Sh at hs
  simp only [Tryz.underlying61] at hs
  obtain ⟨_, _, rfl, s1, _, _, rfl, s2, _, _, rfl, s3, _, _, rfl, s4, rfl⟩ := hs
  obtain ⟨a, rfl, _⟩ := sh_intC _ s1
  obtain ⟨b, rfl, _⟩ := sh_intC _ s2
  obtain ⟨d, rfl, _⟩ := sh_intC _ s3
  obtain ⟨e, rfl, _⟩ := sh_intC _ s4
  exact ⟨a, b, d, e, ha⟩
theorem sum_bd {α : Type} {w : α → Nat} {n : Nat} : ∀ {l : List α}, (∀ a ∈ l, w a ≤ n) → (l.map w).sum ≤ n * l.length
  | [], _ => by simp
  | a :: l, h => by
    have h1 := h a List.mem_cons_self
    have h2 := sum_bd (l := l) fun b hb => h b (List.mem_cons_of_mem _ hb)
    simp only [List.map_cons, List.sum_cons, List.length_cons, Nat.mul_add]
    omega
theorem plP_bk {ms : List Mo} (hg : ∀ m ∈ ms, GoodM m) (i : Nat) : ∀ p ∈ (plP ms i).1, p.banks.length ≤ 4 := by
  induction i with
  | zero => intro p hp; simp [plP] at hp
  | succ i ih =>
    unfold plP
    split
    · rename_i m h
      intro p hp
      rcases List.mem_append.1 hp with h1 | h1
      · exact ih p h1
      · simp at h1
        subst h1
        have := (hg m (List.mem_of_getElem? h)).bl
        show (bkP m.banks _ m.banks.length).1.length ≤ 4
        rw [bkP_len _ _ (Nat.le_refl _)]
        exact this
    · exact ih
theorem tgs_bd {ms : List Mo} {m : Mo} (g : GoodM m) : (tgsOf ms m.imps).length ≤ 16 := by
  have := List.length_filterMap_le (fun s => (resolveF ms s).map tgOf) m.imps
  have := g.il
  simp only [tgsOf]
  omega
theorem link_sound {ms : List Mo} {c : Cf} (h : linkC ms c = 0) : soundF ms c = 0 := by
  unfold linkC at h
  split at h
  · omega
  · omega
theorem sm_link (ms : List Mo) (c : Cf) : smLa (linkL ms c) := by
  by_cases h : linkC ms c = 0
  · rw [show linkL ms c = laF ms c from if_pos h]
    obtain ⟨⟨ca0, ca1, _⟩, ⟨ln0, ln1⟩, hgm, _⟩ := sound_of (link_sound h)
    have hpl := plP_len (ms := ms) (i := ms.length) (Nat.le_refl _)
    have hbk := plP_bk hgm ms.length
    have htg : ∀ t ∈ (ms.map fun m => tgsOf ms m.imps), t.length ≤ 16 := fun t ht => by
      obtain ⟨m, hm, rfl⟩ := List.mem_map.1 ht
      exact tgs_bd (hgm m hm)
    have b1 := sum_bd (w := wP) (n := 7) (l := (plP ms ms.length).1) fun p hp => by have := hbk p hp; simp only [wP]; omega
    have b2 := sum_bd (w := wT) (n := 48) (l := ms.map fun m => tgsOf ms m.imps) fun t ht => by have := htg t ht; simp only [wT]; omega
    rw [List.length_map] at b2
    refine ⟨?_, ?_, ?_, ?_, ?_, ?_, ?_⟩
    · show (plP ms ms.length).1.length ≤ _
      omega
    · intro p hp
      have := hbk p hp
      simp only [smPl]
      omega
    · show sumW wP (plP ms ms.length).1 ≤ _
      simp only [sumW]
      omega
    · show (slP _ _ _).1.length ≤ _
      rw [slP_len]
      omega
    · show (ms.map _).length ≤ _
      rw [List.length_map]
      omega
    · intro t ht
      have := htg t ht
      simp only [smTgs]
      omega
    · show sumW wT (ms.map _) ≤ _
      simp only [sumW]
      omega
  · rw [show linkL ms c = zeroLa from if_neg h]
    exact ⟨by simp [zeroLa], fun p hp => by simp [zeroLa] at hp, by simp [zeroLa, sumW], by simp [zeroLa], by simp [zeroLa], fun p hp => by simp [zeroLa] at hp, by simp [zeroLa, sumW]⟩
theorem lendT4 (l : List (List AV)) : List.take l.length (List.drop 0 l) = l := by rw [List.drop_zero, List.take_length]
theorem lendK {α : Type} {C : α → List AV} {l : List α} {n : Nat} (h : l.length = n) : List.take n (List.drop 0 (l.map C)) = l.map C ∧ (l.map C).length = n := by
  subst h
  exact ⟨lendD _ _, List.length_map _⟩
end Go.Proofs.YtbfjkjdbdejnmaaGreat.Ab

/- Whether a layout is one that Link gives: both programs' walks. No condition. -/
namespace Go.Proofs.YtbfjkjdbdejnmaaGreat.Ab
set_option linter.unusedVariables false
set_option linter.unusedSimpArgs false

def hReal : CH := fun args hl K => match args, hl with
  | [.imm _ _ 8 L, a], [] => ∃ (ms : List Mo) (l : La), L = ms.map moC ∧ ms.length ≤ 1048576 ∧ (∀ m ∈ ms, smMo m) ∧ LaV a l ∧ smLa l ∧ (RealP ms l → K (.v (.bool true)) []) ∧ (¬ RealP ms l → K (.v (.bool false)) [])
  | _, _ => False
theorem gives_of {ms : List Mo} {l : La} {w : Int} (h : linkC ms (cfL l w) = 0) (e : linkL ms (cfL l w) = l) : GivesP ms l w := ⟨h, by rw [linkL, if_pos h] at e; exact e⟩
theorem gives_eq {ms : List Mo} {l : La} {w : Int} (h : GivesP ms l w) : linkC ms (cfL l w) = 0 ∧ linkL ms (cfL l w) = l := ⟨h.1, by rw [linkL, if_pos h.1]; exact h.2⟩
abbrev laI (l : La) (b1 z1 b2 z2 b3 z3 : Bool) : List AV := [.imm b1 z1 4 (l.pls.map plC), .v (.int .i64 l.stack), .imm b2 z2 1 (l.slots.map intC), .v (.int .i64 l.flash), .v (.int .i64 l.ram), .imm b3 z3 1 (l.tgts.map tgsC)]
def cx_s_l5Real : Ctx := mkCut [(88, callM [] true hEnds), (89, callM [] true hLink), (90, callM [] true hSameLa)]
theorem cx_s_l5Real_ok : CtxOk Tryz.prog cx_s_l5Real := mkCut_ok (mem1 ⟨s_l5Ends, fnOk Tryz.func88 rfl rfl⟩ (mem1 ⟨s_spec_Link, fnOk Tryz.func89 rfl rfl⟩ (mem1 ⟨s_SameLayout, fnOk Tryz.func90 rfl rfl⟩ mem0)))
set_option maxRecDepth 100000 in
set_option pp.maxSteps 1500 in
set_option maxHeartbeats 16000000 in
theorem s_l5Real : HSound Tryz.prog 37 (callM [] true hReal) := by
  refine callM_sound cx_s_l5Real_ok mixed Tryz.func37 rfl fun args hl K hp => ?_
  unfold hReal at hp
  split at hp
  · rename_i t z L a
    obtain ⟨ms, l, rfl, hlen, hsm, ⟨b1, z1, b2, z2, b3, z3, rfl⟩, hb, hp1, hp2⟩ := hp
    have hsl := hb.slots
    refine Or.inr (Exists.intro true (Exists.intro [0, 3, 5] (Exists.intro (fun vs h => vs = [.imm t z 8 (ms.map moC), .ptr 0 0 0 6, .ptr 1 0 0 4] ∧ h = [.box (laI l b1 z1 b2 z2 b3 z3), .box [.v (.int .i64 l.slots.length), .v (.int .i64 1), .v (.int .i64 (stackF l)), .v (.int .i64 0)]]) (And.intro ?_ ?_))))
    · refine Or.inl ?_
      refine And.intro (show wfB _ = true from by kernel_rfl) ?_
      repeat' (first
        | (refine Exists.intro l ?_; refine And.intro ⟨_, _, _, _, _, _, rfl⟩ ?_; exact And.intro rfl rfl)
        | refine And.intro (show wfB _ = true from by kernel_rfl) ?_ | refine And.intro (And.intro rfl rfl) ?_ | exact And.intro rfl rfl | apply HeldC.intro | exact AV.top | (apply HeldF.intro; refine Exists.intro _ (And.intro (by assumption) ?_); refine And.intro (by decide) ?_; exact And.intro rfl rfl) | (refine And.intro (by (refine Exists.intro _ (And.intro (by assumption) ?_); refine And.intro (by decide) ?_; exact And.intro rfl rfl)) ?_) | refine Or.inl ?_
        | refine And.intro ?_ ?_
        | fail)
      all_goals refine Exists.intro [] ?_
      all_goals refine And.intro rfl ?_
      all_goals rw [List.length_map]
      all_goals rfl
    rintro vs h ⟨rfl, rfl⟩
    refine Or.inr (Exists.intro true (Exists.intro [0, 3, 5] (Exists.intro (fun vs h => vs = [.imm t z 8 (ms.map moC), .ptr 0 0 0 6, .ptr 1 0 0 4] ∧ h = [.box (laI l b1 z1 b2 z2 b3 z3), .box [.v (.int .i64 l.slots.length), .v (.int .i64 (wordsF l)), .v (.int .i64 (stackF l)), .v (.int .i64 0)]]) (And.intro ?_ ?_))))
    · repeat' ((first
        | refine And.intro (fun h1 => ?_) (fun h1 => ?_)
        | fail) <;> try cases h1)
      · rename_i h0
        have h0 := of_decide_eq_true h0
        have h1 := of_decide_eq_true h1
        rw [List.length_map] at h0 h1
        obtain ⟨s, hs⟩ : ∃ s, l.slots[0]? = some s := ⟨_, List.getElem?_eq_getElem (by omega)⟩
        have ew : wordsF l = IntKind.i64.wrap ((IntKind.i64.wrap ((IntKind.i64.wrap (IntKind.i64.wrap (65536 + l.ram) - s)).tdiv ((l.slots.map intC).length : Int))).tdiv 4) := by
          rw [wordsF, if_pos (by omega), List.getD_eq_getElem?_getD, hs, List.length_map]
          rfl
        have hg := get_map (f := intC) hs
        have hne : ((l.slots.map intC).length : Int) ≠ 0 := by rw [List.length_map]; omega
        first | refine Or.inl (Or.inl ?_) | refine Or.inl ?_
        refine And.intro (show wfB _ = true from by kernel_rfl) ?_
        repeat' (first
          | refine Exists.intro 0 (And.intro rfl (Exists.intro _ (And.intro hg ?_)))
          | refine And.intro hne ?_
          | refine And.intro (show (4 : Int) ≠ 0 by decide) ?_
          | refine And.intro (show wfB _ = true from by kernel_rfl) ?_ | refine And.intro (And.intro rfl rfl) ?_ | exact And.intro rfl rfl | apply HeldC.intro | exact AV.top | (apply HeldF.intro; refine Exists.intro _ (And.intro (by assumption) ?_); refine And.intro (by decide) ?_; exact And.intro rfl rfl) | (refine And.intro (by (refine Exists.intro _ (And.intro (by assumption) ?_); refine And.intro (by decide) ?_; exact And.intro rfl rfl)) ?_) | refine Or.inl ?_
          | fail)
        refine Exists.intro [] (And.intro rfl ?_)
        rw [ew]
      all_goals simp only [List.length_map, decide_eq_false_iff_not, decide_eq_true_eq] at *
      all_goals refine Exists.intro [] (And.intro rfl ?_)
      all_goals rw [show wordsF l = 1 from if_neg (by omega)]
      all_goals rfl
    rintro vs h ⟨rfl, rfl⟩
    refine Exists.intro ms (And.intro rfl (And.intro hlen (And.intro hsm ?_)))
    have hb2 := sm_link ms (cfL l (wordsF l))
    have q1 : linkC ms (cfL l (wordsF l)) = 0 → linkL ms (cfL l (wordsF l)) = l → RealP ms l := fun h e => gives_of h e
    have q2 : RealP ms l → linkC ms (cfL l (wordsF l)) = 0 ∧ linkL ms (cfL l (wordsF l)) = l := fun h => gives_eq h
    rw [show cfL l (wordsF l) = ⟨l.slots.length, wordsF l, stackF l, 0⟩ from rfl] at hb2 q1 q2
    generalize linkL ms ⟨l.slots.length, wordsF l, stackF l, 0⟩ = k at *
    generalize linkC ms ⟨l.slots.length, wordsF l, stackF l, 0⟩ = n at *
    repeat' ((first
      | refine And.intro (fun h1 => ?_) (fun h1 => ?_)
      | refine Exists.intro _ (And.intro (lendD _ _) (And.intro (List.length_map _) ?_))
      | refine And.intro (closed_Place _) ?_
      | refine And.intro (closed_Int _) ?_
      | refine And.intro (closed_TargetS _) ?_
      | refine Exists.intro k (Exists.intro l (And.intro ⟨_, _, _, _, _, _, rfl⟩ (And.intro ⟨_, _, _, _, _, _, rfl⟩ (And.intro hb2 (And.intro (fun h2 => ?_) (fun h2 => ?_))))))
      | fail) <;> try cases h1)
    · exact hp1 (q1 (by simpa using h1) h2)
    · exact hp2 fun h => h2 (q2 h).2
    · exact hp2 fun h => by simp [(q2 h).1] at h1
  · exact hp.elim
def cx_s_linked : Ctx := mkCut [(101, callM [] true hEnds), (102, callM [] true hLink), (103, callM [] true hSameLa)]
theorem cx_s_linked_ok : CtxOk Tryz.prog cx_s_linked := mkCut_ok (mem1 ⟨s_stackEnd, fnOk Tryz.func101 rfl rfl⟩ (mem1 ⟨s_impl_Link, fnOk Tryz.func102 rfl rfl⟩ (mem1 ⟨s_equal, fnOk Tryz.func103 rfl rfl⟩ mem0)))
set_option maxRecDepth 100000 in
set_option pp.maxSteps 1500 in
set_option maxHeartbeats 16000000 in
theorem s_linked : HSound Tryz.prog 43 (callM [] true hReal) := by
  refine callM_sound cx_s_linked_ok mixed Tryz.func43 rfl fun args hl K hp => ?_
  unfold hReal at hp
  split at hp
  · rename_i t z L a
    obtain ⟨ms, l, rfl, hlen, hsm, ⟨b1, z1, b2, z2, b3, z3, rfl⟩, hb, hp1, hp2⟩ := hp
    have hsl := hb.slots
    rw [← real_tried] at hp1 hp2
    refine Or.inr (Exists.intro true (Exists.intro [0, 3, 5] (Exists.intro (fun vs h => vs = [.imm t z 8 (ms.map moC), .ptr 0 0 0 6, .ptr 1 0 0 4] ∧ h = [.box (laI l b1 z1 b2 z2 b3 z3), .box [.v (.int .i64 l.slots.length), .v (.int .i64 1), .v (.int .i64 (stackF l)), .v (.int .i64 0)]]) (And.intro ?_ ?_))))
    · refine Or.inl ?_
      refine And.intro (show wfB _ = true from by kernel_rfl) ?_
      repeat' (first
        | (refine Exists.intro l ?_; refine And.intro ⟨_, _, _, _, _, _, rfl⟩ ?_; exact And.intro rfl rfl)
        | refine And.intro (show wfB _ = true from by kernel_rfl) ?_ | refine And.intro (And.intro rfl rfl) ?_ | exact And.intro rfl rfl | apply HeldC.intro | exact AV.top | (apply HeldF.intro; refine Exists.intro _ (And.intro (by assumption) ?_); refine And.intro (by decide) ?_; exact And.intro rfl rfl) | (refine And.intro (by (refine Exists.intro _ (And.intro (by assumption) ?_); refine And.intro (by decide) ?_; exact And.intro rfl rfl)) ?_) | refine Or.inl ?_
        | refine And.intro ?_ ?_
        | fail)
      all_goals refine Exists.intro [] ?_
      all_goals refine And.intro rfl ?_
      all_goals rw [List.length_map]
      all_goals rfl
    rintro vs h ⟨rfl, rfl⟩
    refine Or.inl ?_
    refine And.intro (fun h0 => ?_) (fun h0 => ?_)
    · have h0 : l.slots.length = 0 := by simpa using h0
      rw [show TriedP ms l ↔ GivesP ms l 1 from by unfold TriedP; rw [if_pos h0]] at hp1 hp2
      refine Exists.intro ms (And.intro rfl (And.intro hlen (And.intro hsm ?_)))
      have hb2 := sm_link ms (cfL l 1)
      have q1 : linkC ms (cfL l 1) = 0 → linkL ms (cfL l 1) = l → GivesP ms l 1 := fun h e => gives_of h e
      have q2 : GivesP ms l 1 → linkC ms (cfL l 1) = 0 ∧ linkL ms (cfL l 1) = l := fun h => gives_eq h
      rw [show cfL l 1 = ⟨l.slots.length, 1, stackF l, 0⟩ from rfl] at hb2 q1 q2
      generalize linkL ms ⟨l.slots.length, 1, stackF l, 0⟩ = k at *
      generalize linkC ms ⟨l.slots.length, 1, stackF l, 0⟩ = n at *
      repeat' ((first
        | refine And.intro (fun h1 => ?_) (fun h1 => ?_)
        | refine Exists.intro _ (And.intro (lendD _ _) (And.intro (List.length_map _) ?_))
        | refine And.intro (closed_Place _) ?_
        | refine And.intro (closed_Int _) ?_
        | refine And.intro (closed_TargetS _) ?_
        | refine Exists.intro l (Exists.intro k (And.intro ⟨_, _, _, _, _, _, rfl⟩ (And.intro ⟨_, _, _, _, _, _, rfl⟩ (And.intro hb (And.intro (fun h2 => ?_) (fun h2 => ?_))))))
        | fail) <;> try cases h1)
      · exact hp1 (q1 (by simpa using h1) h2.symm)
      · exact hp2 fun h => h2 (q2 h).2.symm
      · exact hp2 fun h => by simp [(q2 h).1] at h1
    have h0 : ¬ l.slots.length = 0 := by simpa using h0
    rw [show TriedP ms l ↔ ∃ k : Nat, k < 8 ∧ GivesP ms l (8 + 8 * (k : Int)) from by unfold TriedP; rw [if_neg h0]] at hp1 hp2
    refine Exists.intro true (Exists.intro [0, 3, 5] (Exists.intro (fun m vs h => ∃ k : Nat, k ≤ 8 ∧ m = 8 - k ∧ (∀ j : Nat, j < k → ¬ GivesP ms l (8 + 8 * (j : Int))) ∧ vs = [.imm t z 8 (ms.map moC), .ptr 0 0 0 6, .ptr 1 0 0 4] ∧
      h = [.box (laI l b1 z1 b2 z2 b3 z3), .box [.v (.int .i64 l.slots.length), .v (.int .i64 (8 + 8 * (k : Int))), .v (.int .i64 (stackF l)), .v (.int .i64 0)]]) (And.intro ?_ ?_)))
    · refine Exists.intro [] (Exists.intro 8 ?_)
      exact ⟨0, by omega, rfl, fun j hj => by omega, rfl, rfl⟩
    intro m vs h hI
    obtain ⟨j, hj, rfl, hno, rfl, rfl⟩ := hI
    refine Or.inl ?_
    refine And.intro (fun h3 => ?_) (fun h3 => ?_)
    · have h3 := of_decide_eq_true h3
      have hj8 : j < 8 := by omega
      have hw8 : IntKind.i64.wrap (8 + 8 * (j : Int) + 8) = 8 + 8 * ((j + 1 : Nat) : Int) := by rw [wrap64 (by omega)]; omega
      refine Exists.intro ms (And.intro rfl (And.intro hlen (And.intro hsm ?_)))
      have hb2 := sm_link ms (cfL l (8 + 8 * (j : Int)))
      have q1 : linkC ms (cfL l (8 + 8 * (j : Int))) = 0 → linkL ms (cfL l (8 + 8 * (j : Int))) = l → GivesP ms l (8 + 8 * (j : Int)) := fun h e => gives_of h e
      have q2 : GivesP ms l (8 + 8 * (j : Int)) → linkC ms (cfL l (8 + 8 * (j : Int))) = 0 ∧ linkL ms (cfL l (8 + 8 * (j : Int))) = l := fun h => gives_eq h
      rw [show cfL l (8 + 8 * (j : Int)) = ⟨l.slots.length, 8 + 8 * (j : Int), stackF l, 0⟩ from rfl] at hb2 q1 q2
      generalize linkL ms ⟨l.slots.length, 8 + 8 * (j : Int), stackF l, 0⟩ = k at *
      generalize linkC ms ⟨l.slots.length, 8 + 8 * (j : Int), stackF l, 0⟩ = n at *
      have hnext : ¬ GivesP ms l (8 + 8 * (j : Int)) → ∀ i : Nat, i < j + 1 → ¬ GivesP ms l (8 + 8 * (i : Int)) := fun h i hi => by
        rcases Nat.lt_or_ge i j with r | r
        · exact hno i r
        · have : i = j := by omega
          subst this
          exact h
      repeat' ((first
        | refine And.intro (fun h1 => ?_) (fun h1 => ?_)
        | refine Exists.intro _ (And.intro (lendD _ _) (And.intro (List.length_map _) ?_))
        | refine And.intro (closed_Place _) ?_
        | refine And.intro (closed_Int _) ?_
        | refine And.intro (closed_TargetS _) ?_
        | refine Exists.intro l (Exists.intro k (And.intro ⟨_, _, _, _, _, _, rfl⟩ (And.intro ⟨_, _, _, _, _, _, rfl⟩ (And.intro hb (And.intro (fun h2 => ?_) (fun h2 => ?_))))))
        | refine Or.inl ?_
        | fail) <;> try cases h1)
      · exact hp1 ⟨j, hj8, q1 (by simpa using h1) h2.symm⟩
      · exact Exists.intro [] (Exists.intro (8 - (j + 1)) (And.intro (by omega) ⟨j + 1, by omega, rfl, hnext (fun h => h2 (q2 h).2.symm), rfl, by rw [hw8]⟩))
      · exact Exists.intro [] (Exists.intro (8 - (j + 1)) (And.intro (by omega) ⟨j + 1, by omega, rfl, hnext (fun h => by simp [(q2 h).1] at h1), rfl, by rw [hw8]⟩))
    · have h3 := of_decide_eq_false h3
      refine hp2 ?_
      rintro ⟨i, hi, h⟩
      exact hno i (by omega) h
  · exact hp.elim
end Go.Proofs.YtbfjkjdbdejnmaaGreat.Ab

/- Images of the reference. No condition. -/
namespace Go.Proofs.YtbfjkjdbdejnmaaGreat.Ab
set_option linter.unusedVariables false
set_option linter.unusedSimpArgs false
set_option maxRecDepth 100000

open Classical in
noncomputable def imgF (ms : List Mo) (l : La) : List Int := if RealP ms l then flashN ms l ms.length else []
open Classical in
noncomputable def imgR (ms : List Mo) (l : La) : List Int := if RealP ms l then ramN ms l ms.length else []
open Classical in
noncomputable def imgO (ms : List Mo) (l : La) : Bool := decide (RealP ms l)
theorem img_y {ms : List Mo} {l : La} (h : RealP ms l) : imgF ms l = flashN ms l ms.length ∧ imgR ms l = ramN ms l ms.length ∧ imgO ms l = true := by
  unfold imgF imgR imgO
  simp [h]
theorem img_n {ms : List Mo} {l : La} (h : ¬ RealP ms l) : imgF ms l = [] ∧ imgR ms l = [] ∧ imgO ms l = false := by
  unfold imgF imgR imgO
  simp [h]
theorem rep_take {α : Type} (n : Nat) (x : α) : List.take n (List.replicate n x) = List.replicate n x := List.take_of_length_le (by simp)
theorem closed_rep (n : Nat) : ClosedL (List.replicate n (byteC 0)) := by
  have := closed_bytes (List.replicate n 0)
  rwa [List.map_replicate] at this
theorem lay_eq {R D : List Int} {a : Nat} (h : a + D.length ≤ R.length) : List.take (0 + a) (R.map byteC) ++ List.take ((R.map byteC).length - a) (D.map byteC) ++ List.drop (0 + a + min (D.map byteC).length ((R.map byteC).length - a)) (R.map byteC) = (layB R a D).map byteC := by
  rw [List.length_map, List.length_map, Nat.min_eq_left (by omega), List.take_of_length_le (l := D.map byteC) (by rw [List.length_map]; omega), Nat.zero_add]
  simp only [layB, List.map_append, List.map_take, List.map_drop]
theorem relsN_at {r : List Int} {a k : Nat} {d x : Int} {rs : List Int} (h : rs[k]? = some x) : relsN r a d rs (k + 1) = putY (relsN r a d rs k) (a + x.toNat) ((lowAt (relsN r a d rs k) (a + x.toNat) + d) % 4294967296) 4 := by
  rw [relsN]
  simp only [List.getD_eq_getElem?_getD, h, Option.getD_some]
theorem low_lend {Q : List Int} {q : Nat} (h : q + 4 ≤ Q.length) : List.take (q + 4 - q) (List.drop (0 + q) (Q.map byteC)) = ((Q.drop q).take 4).map byteC ∧ (((Q.drop q).take 4).map byteC).length = q + 4 - q := by
  rw [Nat.zero_add, show q + 4 - q = 4 by omega, List.map_take, List.map_drop]
  refine ⟨rfl, ?_⟩
  simp only [List.length_take, List.length_drop, List.length_map]
  omega
theorem low_len {Q : List Int} {q : Nat} (h : q + 4 ≤ Q.length) : ((Q.drop q).take 4).length = 4 := by
  simp only [List.length_take, List.length_drop]
  omega
theorem low_ok {Q : List Int} (h : BytesOk Q) (q : Nat) : BytesOk ((Q.drop q).take 4) := fun b hb => h b (List.mem_of_mem_drop (List.mem_of_mem_take hb))
theorem lowAt_bd {Q : List Int} (h : BytesOk Q) {q : Nat} (hq : q + 4 ≤ Q.length) : 0 ≤ lowAt Q q ∧ lowAt Q q < 4294967296 := by
  have := lowB_bound (low_ok h q)
  rw [low_len hq] at this
  exact this
def hImage : CH := fun args hl K => match args, hl with
  | [.imm _ _ 8 L, a], [] => ∃ (ms : List Mo) (l : La), L = ms.map moC ∧ ms.length ≤ 1048576 ∧ (∀ m ∈ ms, smMo m) ∧ (∀ m ∈ ms, BytesOk m.data) ∧ LaV a l ∧ smLa l ∧
      K (.tup [.agg [.slc 0 0 (imgF ms l).length false, .slc 1 0 (imgR ms l).length false, .slc 2 0 0 false], .v (.bool (imgO ms l))]) [.lst 1 ((imgF ms l).map byteC), .lst 1 ((imgR ms l).map byteC), .lst 1 []]
  | _, _ => False
theorem fin_im {K : AV → HP → Prop} {ms : List Mo} {l : La} (hp : K (.tup [.agg [.slc 0 0 (imgF ms l).length false, .slc 1 0 (imgR ms l).length false, .slc 2 0 0 false], .v (.bool (imgO ms l))]) [.lst 1 ((imgF ms l).map byteC), .lst 1 ((imgR ms l).map byteC), .lst 1 []])
    {f r : List Int} {o : Bool} (h : imgF ms l = f ∧ imgR ms l = r ∧ imgO ms l = o) : K (.tup [.agg [.slc 0 0 f.length false, .slc 1 0 r.length false, .slc 2 0 0 false], .v (.bool o)]) [.lst 1 (f.map byteC), .lst 1 (r.map byteC), .lst 1 []] := by
  obtain ⟨rfl, rfl, rfl⟩ := h
  exact hp
def cx_s_ImageS : Ctx := mkCut [(37, callM [] true hReal), (49, callM [.rw] false hPour), (52, callM [] true hLow), (51, callM [] false hModW), (50, callM [.rw] false hLPut)]
theorem cx_s_ImageS_ok : CtxOk Tryz.prog cx_s_ImageS := mkCut_ok (mem1 ⟨s_l5Real, fnOk Tryz.func37 rfl rfl⟩ (mem1 ⟨s_l5Pour, fnOk Tryz.func49 rfl rfl⟩ (mem1 ⟨s_l1Low, fnOk Tryz.func52 rfl rfl⟩ (mem1 ⟨s_l1Word, fnOk Tryz.func51 rfl rfl⟩ (mem1 ⟨s_l1Put, fnOk Tryz.func50 rfl rfl⟩ mem0)))))
set_option maxRecDepth 100000 in
set_option pp.maxSteps 1500 in
set_option maxHeartbeats 32000000 in
theorem s_ImageS : HSound Tryz.prog 15 (callM [] true hImage) := by
  refine callM_sound cx_s_ImageS_ok mixed Tryz.func15 rfl fun args hl K hp => ?_
  unfold hImage at hp
  split at hp
  · rename_i t z L a
    obtain ⟨ms, l, rfl, hlen, hsm, hby, ⟨b1, z1, b2, z2, b3, z3, rfl⟩, hb, hp⟩ := hp
    refine Or.inl ?_
    refine Exists.intro ms ?_
    refine Exists.intro l (And.intro rfl (And.intro hlen (And.intro hsm (And.intro ⟨_, _, _, _, _, _, rfl⟩ (And.intro hb (And.intro (fun hr => ?_) (fun hr => ?_)))))))
    rotate_left
    · refine And.intro (fun h1 => ?_) (fun h1 => ?_)
      · refine And.intro closed_nil ?_
        refine And.intro closed_nil ?_
        refine And.intro closed_nil ?_
        exact fin_im hp (img_n hr)
      · cases h1
    refine And.intro (fun h1 => ?_) (fun h1 => ?_)
    · cases h1
    have hlim : Lim ms l := lim_of hr
    have hfl := hlim.fl
    have hrm := hlim.ram
    refine Or.inr (Exists.intro true (Exists.intro [0, 3, 4, 6] (Exists.intro (fun vs h => vs = [.imm t z 8 (ms.map moC), .ptr 0 0 0 6, .ptr 1 0 0 3, .ptr 2 0 0 3] ∧ h = [.box (laI l b1 z1 b2 z2 b3 z3), .box [.sl 1 [], .sl 1 [], .sl 1 []], .box [.sl 1 (List.replicate l.flash.toNat (byteC 0)), .sl 1 (List.replicate l.ram.toNat (byteC 0)), .sl 1 []]]) (And.intro ?_ ?_))))
    · refine Or.inl ?_
      refine And.intro (show wfB _ = true from by kernel_rfl) ?_
      repeat' (first
        | (refine Exists.intro l.flash.toNat ?_; refine And.intro (by omega) ?_; refine And.intro (by omega) ?_; refine And.intro (by simp only; omega) ?_; exact And.intro rfl rfl)
        | (refine Exists.intro l.ram.toNat ?_; refine And.intro (by omega) ?_; refine And.intro (by omega) ?_; refine And.intro (by simp only; omega) ?_; exact And.intro rfl rfl)
        | refine And.intro (show wfB _ = true from by kernel_rfl) ?_ | refine And.intro (And.intro rfl rfl) ?_ | exact And.intro rfl rfl | apply HeldC.intro | exact AV.top | (apply HeldF.intro; refine Exists.intro _ (And.intro (by assumption) ?_); refine And.intro (by decide) ?_; exact And.intro rfl rfl) | (refine And.intro (by (refine Exists.intro _ (And.intro (by assumption) ?_); refine And.intro (by decide) ?_; exact And.intro rfl rfl)) ?_) | refine Or.inl ?_
        | refine And.intro ?_ ?_
        | fail)
      all_goals refine Exists.intro [] ?_
      all_goals repeat' (first
        | refine Exists.intro [] (And.intro rfl (And.intro rfl (And.intro closed_nil ?_)))
        | refine Exists.intro (List.replicate l.flash.toNat (byteC 0)) (And.intro (rep_take _ _) (And.intro List.length_replicate (And.intro (closed_rep _) ?_)))
        | refine Exists.intro (List.replicate l.ram.toNat (byteC 0)) (And.intro (rep_take _ _) (And.intro List.length_replicate (And.intro (closed_rep _) ?_)))
        | fail)
      all_goals exact And.intro rfl rfl
    rintro vs h ⟨rfl, rfl⟩
    have hf0 : List.replicate l.flash.toNat (byteC 0) = (flashN ms l 0).map byteC := by rw [flashN, List.map_replicate]
    have hr0 : List.replicate l.ram.toNat (byteC 0) = (ramN ms l 0).map byteC := by rw [ramN, List.map_replicate]
    rw [hf0, hr0]
    clear hf0 hr0
    refine Exists.intro true (Exists.intro [0, 3, 4, 6, 7] (Exists.intro (fun n vs h => ∃ i : Nat, i ≤ ms.length ∧ n = ms.length - i ∧ vs = [.imm t z 8 (ms.map moC), .ptr 0 0 0 6, .ptr 1 0 0 3, .ptr 2 0 0 3, .v (.int .i64 i)] ∧ h = [.box (laI l b1 z1 b2 z2 b3 z3), .box [.sl 1 [], .sl 1 [], .sl 1 []], .box [.sl 1 ((flashN ms l i).map byteC), .sl 1 ((ramN ms l i).map byteC), .sl 1 []]]) (And.intro ?_ ?_)))
    · refine Exists.intro [] ?_
      exact Exists.intro ms.length ⟨0, by omega, rfl, rfl, rfl⟩
    intro n vs h hI
    obtain ⟨i, hi, rfl, rfl, rfl⟩ := hI
    refine Or.inl ?_
    refine And.intro (fun h1 => ?_) (fun h1 => ?_)
    · have h1 := of_decide_eq_true h1
      rw [List.length_map] at h1
      have hlt : i < ms.length := by omega
      obtain ⟨m, hm⟩ : ∃ m, ms[i]? = some m := ⟨_, List.getElem?_eq_getElem hlt⟩
      obtain ⟨p, hpl⟩ : ∃ p, l.pls[i]? = some p := ⟨_, List.getElem?_eq_getElem (by rw [hlim.pls]; omega)⟩
      obtain ⟨⟨at1, at2⟩, hbn, hat3, ⟨at4, at5⟩, hat6, hgm⟩ := hlim.at' i p m hpl hm
      have hml := hgm.bl
      have hrl := hgm.rl
      have hdl := hgm.dl
      have hfN := flashN_len ms l i
      have hrN := ramN_len hlim i
      refine Exists.intro i (And.intro rfl (Exists.intro (plC p) (And.intro (get_map hpl) ?_)))
      first | refine Or.inl (Or.inl ?_) | refine Or.inl ?_
      refine And.intro (show wfB _ = true from by kernel_rfl) ?_
      refine Exists.intro i (And.intro rfl (Exists.intro (moC m) (And.intro (get_map hm) ?_)))
      apply HeldC.intro
      · refine And.intro (closed_bytes _) ?_
        refine Exists.intro (flashN ms l i) ?_
        refine Exists.intro m.text ?_
        refine Exists.intro p.text.toNat ?_
        refine And.intro rfl (And.intro (List.length_map _) (And.intro (by omega) (And.intro rfl (And.intro hgm.tw (And.intro (by omega) (And.intro (by omega) ?_))))))
        exact And.intro rfl rfl
      have hF0 : (pourN (flashN ms l i) p.text.toNat m.text m.text.length).length = l.flash.toNat := by rw [pourN_len, hfN]
      have hf1 : flashN ms l (i + 1) = banksN (pourN (flashN ms l i) p.text.toNat m.text m.text.length) p m m.banks.length := by rw [flashN, hm, hpl]
      have hr1 : ramN ms l (i + 1) = relsN (layB (ramN ms l i) (p.data - 65536).toNat m.data) (p.data - 65536).toNat p.data m.rels m.rels.length := by rw [ramN, hm, hpl]
      have hro := ramN_ok hby l i
      have hfl0 : (List.map byteC (flashN ms l i)).length = l.flash.toNat := by rw [List.length_map, hfN]
      rw [hfl0]
      generalize pourN (flashN ms l i) p.text.toNat m.text m.text.length = F0 at *
      generalize ramN ms l i = R0 at *
      refine Exists.intro true (Exists.intro [0, 3, 4, 6, 7, 8, 9] (Exists.intro (fun n vs h => ∃ k : Nat, k ≤ m.banks.length ∧ n = m.banks.length - k ∧ vs = [.imm t z 8 (ms.map moC), .ptr 0 0 0 6, .ptr 1 0 0 3, .ptr 2 0 0 3, .v (.int .i64 i), .ptr 3 0 0 4, .v (.int .i64 k)] ∧
        h = [.box (laI l b1 z1 b2 z2 b3 z3), .box [.sl 1 [], .sl 1 [], .sl 1 []], .box [.sl 1 ((banksN F0 p m k).map byteC), .sl 1 (R0.map byteC), .sl 1 []], .box [.v (.int .i64 p.text), .imm b1 false 1 (p.banks.map intC), .v (.int .i64 p.data), .v (.int .i64 p.size)]]) (And.intro ?_ ?_)))
      · refine Exists.intro [] ?_
        have htk := tkL (C := byteC) hF0
        repeat' (first
          | refine Exists.intro [] (And.intro rfl (And.intro rfl (And.intro closed_nil ?_)))
          | refine Exists.intro _ (And.intro htk.1 (And.intro htk.2 (And.intro (closed_bytes _) ?_)))
          | refine Exists.intro _ (And.intro List.take_length (And.intro rfl (And.intro (closed_bytes _) ?_)))
          | fail)
        exact Exists.intro m.banks.length ⟨0, by omega, rfl, rfl, rfl⟩
      intro n vs h hI
      obtain ⟨k, hk1, rfl, rfl, rfl⟩ := hI
      refine Or.inl ?_
      refine Exists.intro i (And.intro rfl (Exists.intro (moC m) (And.intro (get_map hm) ?_)))
      refine And.intro (fun h2 => ?_) (fun h2 => ?_)
      · have h2 := of_decide_eq_true h2
        rw [List.length_map] at h2
        have hltk : k < m.banks.length := by omega
        obtain ⟨bk, hbk⟩ : ∃ b, m.banks[k]? = some b := ⟨_, List.getElem?_eq_getElem hltk⟩
        obtain ⟨ak, hak⟩ : ∃ a, p.banks[k]? = some a := ⟨_, List.getElem?_eq_getElem (by omega)⟩
        obtain ⟨ba1, ba2⟩ := hat3 k ak bk hak hbk
        have hbw := (hgm.bk bk (List.mem_of_getElem? hbk)).2
        have hst : banksN F0 p m (k + 1) = pourN (banksN F0 p m k) ak.toNat bk bk.length := by
          rw [banksN]
          simp only [List.getD_eq_getElem?_getD, hak, hbk, Option.getD_some]
        have hBl := banksN_len F0 p m k
        have hBl2 := banksN_len F0 p m (k + 1)
        rw [hst] at hBl2
        generalize banksN F0 p m k = B0 at *
        first | refine Or.inl (Or.inl ?_) | refine Or.inl ?_
        refine And.intro (show wfB _ = true from by kernel_rfl) ?_
        repeat' (first
          | refine Exists.intro k (And.intro rfl (Exists.intro (intC ak) (And.intro (get_map hak) ?_)))
          | refine Exists.intro i (And.intro rfl (Exists.intro (moC m) (And.intro (get_map hm) ?_)))
          | refine Exists.intro k (And.intro rfl (Exists.intro (bankC bk) (And.intro (get_map hbk) ?_)))
          | fail)
        apply HeldC.intro
        · refine And.intro (closed_bytes _) ?_
          refine Exists.intro B0 ?_
          refine Exists.intro bk ?_
          refine Exists.intro ak.toNat ?_
          refine And.intro rfl (And.intro (List.length_map _) (And.intro (by omega) (And.intro rfl (And.intro hbw (And.intro (by omega) (And.intro (by omega) ?_))))))
          exact And.intro rfl rfl
        refine Exists.intro [] ?_
        have htk := tkL (C := byteC) (show (pourN B0 ak.toNat bk bk.length).length = (List.map byteC B0).length by rw [List.length_map]; omega)
        repeat' (first
          | refine Exists.intro [] (And.intro rfl (And.intro rfl (And.intro closed_nil ?_)))
          | refine Exists.intro _ (And.intro htk.1 (And.intro htk.2 (And.intro (closed_bytes _) ?_)))
          | refine Exists.intro _ (And.intro List.take_length (And.intro rfl (And.intro (closed_bytes _) ?_)))
          | fail)
        refine Exists.intro (m.banks.length - (k + 1)) (And.intro (by omega) ⟨k + 1, by omega, rfl, ?_, ?_⟩)
        · rw [wrap_succ hltk (by omega)]
        · rw [hst]
      have h2 := of_decide_eq_false h2
      rw [List.length_map] at h2
      have hke : k = m.banks.length := by omega
      subst hke
      rw [← hf1]
      have hF1 := flashN_len ms l (i + 1)
      generalize hFe : flashN ms l (i + 1) = F1 at *
      have hwd : IntKind.i64.wrap (p.data - 65536) = ((p.data - 65536).toNat : Int) := by rw [wrap64 (by omega)]; omega
      refine Or.inl (Or.inl ?_)
      refine And.intro (show wfB _ = true from by kernel_rfl) ?_
      apply HeldF.intro
      · refine Exists.intro (p.data - 65536).toNat (And.intro hwd (And.intro (by rw [List.length_map]; omega) (And.intro (Nat.le_refl _) ?_)))
        exact And.intro rfl rfl
      refine Exists.intro i (And.intro rfl (Exists.intro (moC m) (And.intro (get_map hm) ?_)))
      apply HeldC.intro
      · refine And.intro (by rw [List.length_map]; omega) ?_
        refine And.intro (bytes_notSl _) ?_
        refine And.intro rfl ?_
        rw [lay_eq (by omega)]
      rw [hwd]
      have hLl : (layB R0 (p.data - 65536).toNat m.data).length = R0.length := layB_len (by omega)
      have hLo : BytesOk (layB R0 (p.data - 65536).toNat m.data) := layB_ok hro (hby m (List.mem_of_getElem? hm)) _
      generalize hA : (p.data - 65536).toNat = A at *
      generalize layB R0 A m.data = R1 at *
      have hR1l : R1.length = l.ram.toNat := by omega
      refine Exists.intro true (Exists.intro [0, 3, 4, 6, 7, 8, 10, 11] (Exists.intro (fun n vs h => ∃ k : Nat, k ≤ m.rels.length ∧ n = m.rels.length - k ∧ vs = [.imm t z 8 (ms.map moC), .ptr 0 0 0 6, .ptr 1 0 0 3, .ptr 2 0 0 3, .v (.int .i64 i), .ptr 3 0 0 4, .v (.int .i64 A), .v (.int .i64 k)] ∧
        h = [.box (laI l b1 z1 b2 z2 b3 z3), .box [.sl 1 [], .sl 1 [], .sl 1 []], .box [.sl 1 (F1.map byteC), .sl 1 ((relsN R1 A p.data m.rels k).map byteC), .sl 1 []], .box [.v (.int .i64 p.text), .imm b1 false 1 (p.banks.map intC), .v (.int .i64 p.data), .v (.int .i64 p.size)]]) (And.intro ?_ ?_)))
      · refine Exists.intro [] ?_
        have htk := tkL (C := byteC) (show R1.length = (List.map byteC R0).length by rw [List.length_map]; omega)
        repeat' (first
          | refine Exists.intro [] (And.intro rfl (And.intro rfl (And.intro closed_nil ?_)))
          | refine Exists.intro _ (And.intro htk.1 (And.intro htk.2 (And.intro (closed_bytes _) ?_)))
          | refine Exists.intro _ (And.intro List.take_length (And.intro rfl (And.intro (closed_bytes _) ?_)))
          | fail)
        exact Exists.intro m.rels.length ⟨0, by omega, rfl, rfl, rfl⟩
      intro n vs h hI
      obtain ⟨k, hk1, rfl, rfl, rfl⟩ := hI
      refine Or.inl ?_
      refine Exists.intro i (And.intro rfl (Exists.intro (moC m) (And.intro (get_map hm) ?_)))
      refine And.intro (fun h2 => ?_) (fun h2 => ?_)
      · have h2 := of_decide_eq_true h2
        rw [List.length_map] at h2
        have hltk : k < m.rels.length := by omega
        obtain ⟨rk, hrk⟩ : ∃ r, m.rels[k]? = some r := ⟨_, List.getElem?_eq_getElem hltk⟩
        obtain ⟨rk0, rk4⟩ := hat6 rk (List.mem_of_getElem? hrk)
        have hst := relsN_at (r := R1) (a := A) (d := p.data) hrk
        have hQl := relsN_len R1 A p.data m.rels k
        have hQo := relsN_ok hLo A p.data m.rels k
        generalize relsN R1 A p.data m.rels k = Q0 at *
        refine Exists.intro i (And.intro rfl (Exists.intro (moC m) (And.intro (get_map hm) ?_)))
        refine Exists.intro k (And.intro rfl (Exists.intro (intC rk) (And.intro (get_map hrk) ?_)))
        have hwq : IntKind.i64.wrap ((A : Int) + rk) = ((A + rk.toNat : Nat) : Int) := by rw [wrap64 (by omega)]; omega
        have hwq4 : IntKind.i64.wrap (IntKind.i64.wrap ((A : Int) + rk) + 4) = ((A + rk.toNat + 4 : Nat) : Int) := by rw [hwq, wrap64 (by omega)]; omega
        refine Or.inl ?_
        refine And.intro (show wfB _ = true from by kernel_rfl) ?_
        apply HeldF.intro
        · refine Exists.intro (A + rk.toNat) (And.intro hwq (Exists.intro (A + rk.toNat + 4) (And.intro hwq4 (And.intro (by omega) (And.intro (by rw [List.length_map]; omega) ?_)))))
          exact And.intro rfl rfl
        apply HeldC.intro
        · refine Exists.intro _ (And.intro (low_lend (by omega)).1 (And.intro (low_lend (by omega)).2 (And.intro (closed_bytes _) ?_)))
          refine Exists.intro ((Q0.drop (A + rk.toNat)).take 4) (And.intro rfl (And.intro (low_ok hQo _) (And.intro (by rw [low_len (by omega)]; omega) ?_)))
          exact And.intro rfl rfl
        have hlb := lowAt_bd hQo (q := A + rk.toNat) (by omega)
        have hlw : IntKind.i64.wrap (lowB ((Q0.drop (A + rk.toNat)).take 4) + p.data) = lowAt Q0 (A + rk.toNat) + p.data := wrap64 (by simp only [lowAt] at hlb; omega)
        repeat' (refine And.intro (And.intro rfl rfl) ?_)
        apply HeldC.intro
        · refine And.intro (by rw [hlw]; simp only [I64]; omega) ?_
          rw [hlw]
          exact And.intro rfl rfl
        repeat' (refine And.intro (And.intro rfl rfl) ?_)
        apply HeldC.intro
        · refine And.intro (closed_bytes _) ?_
          refine Exists.intro Q0 ?_
          refine Exists.intro (A + rk.toNat) ?_
          refine Exists.intro (4 : Nat) ?_
          refine And.intro rfl (And.intro (List.length_map _) (And.intro hwq (And.intro rfl (And.intro (by omega) (And.intro (by omega) (And.intro (by omega) (And.intro (by omega) (And.intro (by omega) ?_))))))))
          rw [← hst]
          exact And.intro rfl rfl
        repeat' (refine And.intro (And.intro rfl rfl) ?_)
        refine Exists.intro [] ?_
        have hN1 := relsN_len R1 A p.data m.rels (k + 1)
        have htk := tkL (C := byteC) (show (relsN R1 A p.data m.rels (k + 1)).length = (List.map byteC Q0).length by rw [List.length_map]; omega)
        repeat' (first
          | refine Exists.intro [] (And.intro rfl (And.intro rfl (And.intro closed_nil ?_)))
          | refine Exists.intro _ (And.intro htk.1 (And.intro htk.2 (And.intro (closed_bytes _) ?_)))
          | refine Exists.intro _ (And.intro List.take_length (And.intro rfl (And.intro (closed_bytes _) ?_)))
          | fail)
        refine Exists.intro (m.rels.length - (k + 1)) (And.intro (by omega) ⟨k + 1, by omega, rfl, ?_, rfl⟩)
        rw [wrap_succ hltk (by omega)]
      have h2 := of_decide_eq_false h2
      rw [List.length_map] at h2
      have hke : k = m.rels.length := by omega
      subst hke
      refine Exists.intro [] ?_
      refine Exists.intro (ms.length - (i + 1)) (And.intro (by omega) ⟨i + 1, by omega, rfl, ?_, ?_⟩)
      · rw [wrap_succ hlt (by omega)]
      · rw [hFe, hr1]
    · have h1 := of_decide_eq_false h1
      rw [List.length_map] at h1
      have hie : i = ms.length := by omega
      subst hie
      refine And.intro (closed_bytes _) ?_
      refine And.intro (closed_bytes _) ?_
      refine And.intro closed_nil ?_
      rw [List.length_map, List.length_map]
      exact fin_im hp (img_y hr)
  · exact hp.elim
end Go.Proofs.YtbfjkjdbdejnmaaGreat.Ab
