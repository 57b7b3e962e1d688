/- Link: the law. No condition. -/
import Derived.Test.YtijjonafmmhhbaaTLink6
import Derived.Test.YtijjonafmmhhbaaTLay4
import Derived.Test.YtijjonafmmhhbaaTArgsM
namespace Go.Proofs.Ytijjonafmmhhbaa.Ab
set_option linter.unusedVariables false
set_option linter.unusedSimpArgs false
set_option maxRecDepth 100000

def hToCfg : CH := fun args hl K => match args, hl with
  | [.agg [.v (.int .i64 a), .v (.int .i64 b), .v (.int .i64 c), .v (.int .i64 d)]], [] => K (.agg [.v (.int .i64 a), .v (.int .i64 b), .v (.int .i64 c), .v (.int .i64 d)]) []
  | _, _ => False
def cx_s_toConfig : Ctx := mkC []
theorem cx_s_toConfig_ok : CtxOk Try.prog cx_s_toConfig := cx0_ok
set_option maxRecDepth 100000 in
set_option pp.maxSteps 1500 in
theorem s_toConfig : HSound Try.prog 24 (callM [] false hToCfg) := by
  refine callM_sound cx_s_toConfig_ok mixed Try.func24 rfl fun args hl K hp => ?_
  unfold hToCfg at hp
  split at hp
  · exact hp
  · exact hp.elim
theorem arg_cfg {n : Nat} {c : List AV} {x : AV} (hs : Sh Try.prog (n + 2) 42 c) (ha : ArgOf Try.prog 42 c x) : ∃ a b d e : Int, x = .agg [.v (.int .i64 a), .v (.int .i64 b), .v (.int .i64 d), .v (.int .i64 e)] := by
  simp only [ArgOf, Try.underlying42] at ha
  unfold Sh at hs
  simp only [Try.underlying42] at hs
  obtain ⟨_, _, rfl, s1, _, _, rfl, s2, _, _, rfl, s3, _, _, rfl, s4, rfl⟩ := hs
  obtain ⟨a, rfl, _⟩ := sh_intC _ s1
  obtain ⟨b, rfl, _⟩ := sh_intC _ s2
  obtain ⟨d, rfl, _⟩ := sh_intC _ s3
  obtain ⟨e, rfl, _⟩ := sh_intC _ s4
  exact ⟨a, b, d, e, ha⟩
theorem sum_bd {α : Type} {w : α → Nat} {n : Nat} : ∀ {l : List α}, (∀ a ∈ l, w a ≤ n) → (l.map w).sum ≤ n * l.length
  | [], _ => by simp
  | a :: l, h => by
    have h1 := h a List.mem_cons_self
    have h2 := sum_bd (l := l) fun b hb => h b (List.mem_cons_of_mem _ hb)
    simp only [List.map_cons, List.sum_cons, List.length_cons, Nat.mul_add]
    omega
theorem plP_bk {ms : List Mo} (hg : ∀ m ∈ ms, GoodM m) (i : Nat) : ∀ p ∈ (plP ms i).1, p.banks.length ≤ 4 := by
  induction i with
  | zero => intro p hp; simp [plP] at hp
  | succ i ih =>
    unfold plP
    split
    · rename_i m h
      intro p hp
      rcases List.mem_append.1 hp with h1 | h1
      · exact ih p h1
      · simp at h1
        subst h1
        have := (hg m (List.mem_of_getElem? h)).bl
        show (bkP m.banks _ m.banks.length).1.length ≤ 4
        rw [bkP_len _ _ (Nat.le_refl _)]
        exact this
    · exact ih
theorem tgs_bd {ms : List Mo} {m : Mo} (g : GoodM m) : (tgsOf ms m.imps).length ≤ 16 := by
  have := List.length_filterMap_le (fun s => (resolveF ms s).map tgOf) m.imps
  have := g.il
  simp only [tgsOf]
  omega
theorem link_sound {ms : List Mo} {c : Cf} (h : linkC ms c = 0) : soundF ms c = 0 := by
  unfold linkC at h
  split at h
  · omega
  · omega
theorem sm_link (ms : List Mo) (c : Cf) : smLa (linkL ms c) := by
  by_cases h : linkC ms c = 0
  · rw [show linkL ms c = laF ms c from if_pos h]
    obtain ⟨⟨ca0, ca1, _⟩, ⟨ln0, ln1⟩, hgm, _⟩ := sound_of (link_sound h)
    have hpl := plP_len (ms := ms) (i := ms.length) (Nat.le_refl _)
    have hbk := plP_bk hgm ms.length
    have htg : ∀ t ∈ (ms.map fun m => tgsOf ms m.imps), t.length ≤ 16 := fun t ht => by
      obtain ⟨m, hm, rfl⟩ := List.mem_map.1 ht
      exact tgs_bd (hgm m hm)
    have b1 := sum_bd (w := wP) (n := 7) (l := (plP ms ms.length).1) fun p hp => by have := hbk p hp; simp only [wP]; omega
    have b2 := sum_bd (w := wT) (n := 48) (l := ms.map fun m => tgsOf ms m.imps) fun t ht => by have := htg t ht; simp only [wT]; omega
    rw [List.length_map] at b2
    refine ⟨?_, ?_, ?_, ?_, ?_, ?_, ?_⟩
    · show (plP ms ms.length).1.length ≤ _
      omega
    · intro p hp
      have := hbk p hp
      simp only [smPl]
      omega
    · show sumW wP (plP ms ms.length).1 ≤ _
      simp only [sumW]
      omega
    · show (slP _ _ _).1.length ≤ _
      rw [slP_len]
      omega
    · show (ms.map _).length ≤ _
      rw [List.length_map]
      omega
    · intro t ht
      have := htg t ht
      simp only [smTgs]
      omega
    · show sumW wT (ms.map _) ≤ _
      simp only [sumW]
      omega
  · rw [show linkL ms c = zeroLa from if_neg h]
    exact ⟨by simp [zeroLa], fun p hp => by simp [zeroLa] at hp, by simp [zeroLa, sumW], by simp [zeroLa], by simp [zeroLa], fun p hp => by simp [zeroLa] at hp, by simp [zeroLa, sumW]⟩
theorem lendT4 (l : List (List AV)) : List.take l.length (List.drop 0 l) = l := by rw [List.drop_zero, List.take_length]
theorem lendK {α : Type} {C : α → List AV} {l : List α} {n : Nat} (h : l.length = n) : List.take n (List.drop 0 (l.map C)) = l.map C ∧ (l.map C).length = n := by
  subst h
  exact ⟨lendD _ _, List.length_map _⟩
def cx6 : Ctx := mkCut [(21, callM [] true hSzModule), (23, callM [] true hToModule), (24, callM [] false hToCfg), (22, callM [] true hLink), (25, callM [] true hLink), (26, callM [] true hEqLa), (27, callM [] true hEqModule), (28, callM [.rw] false hMarkMoS), (29, callM [.ag [.rw, .ro, .rw, .ro, .ro, .rw]] false hMarkLa), (30, callM [] true hHeldLa)]
theorem cx6_ok : CtxOk Try.prog cx6 := mkCut_ok (mem1 ⟨s_szModuleS, fnOk Try.func21 rfl rfl⟩ (mem1 ⟨s_toModuleS, fnOk Try.func23 rfl rfl⟩ (mem1 ⟨s_toConfig, fnOk Try.func24 rfl rfl⟩ (mem1 ⟨s_spec_Link, fnOk Try.func22 rfl rfl⟩ (mem1 ⟨s_impl_Link, fnOk Try.func25 rfl rfl⟩ (mem1 ⟨s_eqLayout, fnOk Try.func26 rfl rfl⟩ (mem1 ⟨s_eqModuleS, fnOk Try.func27 rfl rfl⟩ (mem1 ⟨s_markModuleS, fnOk Try.func28 rfl rfl⟩ (mem1 ⟨s_markLayout, fnOk Try.func29 rfl rfl⟩ (mem1 ⟨s_heldLayout, fnOk Try.func30 rfl rfl⟩ mem0))))))))))
set_option maxRecDepth 100000 in
set_option maxHeartbeats 64000000 in
set_option pp.maxSteps 1500 in
theorem s6 (xs : List AV) (hx : ArgsOf Try.prog 6 [40, 42] xs) : inlH cx6 Try.f6.ntmps Try.f6.results.toList (Try.f6.body.getD .skip) xs [] fun x _ => x = .v (.bool true) := by
  obtain ⟨x, _, l1, rfl, hs, ha, x2, _, l2, rfl, hs2, ha2, rfl⟩ := hx
  obtain ⟨ms, rfl, hok, hlen⟩ := arg_moS hs ha
  obtain ⟨a, b, c, d, rfl⟩ := arg_cfg hs2 ha2
  refine Exists.intro ms (And.intro rfl (And.intro (fun m hm => (hok m hm).big) (And.intro hlen (And.intro (by decide) (And.intro (by decide) ?_)))))
  refine Or.inl ?_
  refine And.intro (fun h1 => rfl) (fun h1 => ?_)
  have h1 := of_decide_eq_false h1
  have hw : wtModule ms ≤ 1048576 := by have := szB_ge (by decide) h1; omega
  clear h1
  have hl : ms.length ≤ 1048576 := by simp only [wtModule] at hw; omega
  have hsm : ∀ m ∈ ms, smMo m := fun m hm => sm_of_wt (by have := le_sum (f := wtMo) hm; simp only [wtModule] at hw; omega)
  have hb := sm_link ms ⟨a, b, c, d⟩
  have hmw : ∀ l : La, 0 ≤ markWL l := fun l => by simp only [markWL]; omega
  have hmw := hmw (linkL ms ⟨a, b, c, d⟩)
  generalize hLL : linkL ms ⟨a, b, c, d⟩ = l at *
  generalize hCC : linkC ms ⟨a, b, c, d⟩ = n at *
  refine Or.inr (Exists.intro true (Exists.intro [0, 3, 6, 7] (Exists.intro (fun vs h => vs = [.imm false false 8 (ms.map moC), .ptr 0 0 0 4, .ptr 1 0 0 6, .v (.int .i64 n)] ∧
    h = [.box [.v (.int .i64 a), .v (.int .i64 b), .v (.int .i64 c), .v (.int .i64 d)], .box [.sl 4 (l.pls.map plC), .v (.int .i64 l.stack), .sl 1 (l.slots.map intC), .v (.int .i64 l.flash), .v (.int .i64 l.ram), .sl 1 (l.tgts.map tgsC)]]) (And.intro ?_ ?_))))
  · refine Or.inl ?_
    refine And.intro (show wfB _ = true from by kernel_rfl) ?_
    repeat' (first
      | (refine Exists.intro ms ?_; refine And.intro rfl ?_; refine And.intro hsm ?_; refine And.intro hl ?_; exact And.intro rfl rfl)
      | refine Exists.intro _ (And.intro (lendD _ _) (And.intro (List.length_map _) ?_))
      | refine And.intro (closed_Module _) ?_
      | (refine Exists.intro ms ?_; refine And.intro rfl ?_; refine And.intro hl ?_; refine And.intro hsm ?_; rw [hLL, hCC]; exact And.intro rfl rfl)
      | refine And.intro (show wfB _ = true from by kernel_rfl) ?_ | refine And.intro (And.intro rfl rfl) ?_ | exact And.intro rfl rfl | apply HeldC.intro | exact AV.top | (apply HeldF.intro; refine Exists.intro _ (And.intro (by assumption) ?_); refine And.intro (by decide) ?_; exact And.intro rfl rfl) | (refine And.intro (by (refine Exists.intro _ (And.intro (by assumption) ?_); refine And.intro (by decide) ?_; exact And.intro rfl rfl)) ?_) | refine Or.inl ?_
      | refine And.intro ?_ ?_
      | fail)
    all_goals refine Exists.intro [] ?_
    all_goals repeat' (first
      | refine Exists.intro _ (And.intro (lendL _ _) (And.intro (List.length_map _) (And.intro (closed_Place _) ?_)))
      | refine Exists.intro _ (And.intro (lendL _ _) (And.intro (List.length_map _) (And.intro (closed_Int _) ?_)))
      | refine Exists.intro _ (And.intro (lendL _ _) (And.intro (List.length_map _) (And.intro (closed_TargetS _) ?_)))
      | refine Exists.intro _ (And.intro List.take_length (And.intro rfl (And.intro (closed_Place _) ?_)))
      | refine Exists.intro _ (And.intro List.take_length (And.intro rfl (And.intro (closed_Int _) ?_)))
      | refine Exists.intro _ (And.intro List.take_length (And.intro rfl (And.intro (closed_TargetS _) ?_)))
      | fail)
    all_goals exact And.intro rfl rfl
  intro vs h hI
  obtain ⟨rfl, rfl⟩ := hI
  repeat' ((first
      | refine Exists.intro _ (And.intro (lendD _ _) (And.intro (List.length_map _) ?_))
      | refine Exists.intro _ (And.intro (lendT4 _) (And.intro rfl ?_))
      | refine Exists.intro _ (And.intro (lendK (mkG_len _ _)).1 (And.intro (lendK (mkG_len _ _)).2 ?_))
      | refine Exists.intro _ (And.intro (lendK (marksInt_len _ _)).1 (And.intro (lendK (marksInt_len _ _)).2 ?_))
      | refine And.intro (closed_Module _) ?_
      | refine And.intro (closed_Place _) ?_
      | refine And.intro (closed_Int _) ?_
      | refine And.intro (closed_TargetS _) ?_
      | refine Exists.intro ms (And.intro rfl (And.intro hsm (And.intro hl ?_)))
      | (refine Exists.intro ms (And.intro rfl (And.intro hl (And.intro hsm ?_))); rw [hLL, hCC])
      | refine Exists.intro l (And.intro ⟨_, _, _, _, _, _, rfl⟩ (And.intro ⟨_, _, _, _, _, _, rfl⟩ (And.intro hb ?_)))
      | refine Exists.intro ms (And.intro rfl (And.intro rfl (And.intro hsm (And.intro hl ?_))))
      | (refine Exists.intro ms (And.intro rfl (And.intro rfl (And.intro hw (And.intro rfl ?_)))); intro q cs hq hcs)
      | refine Exists.intro l (And.intro rfl (And.intro rfl (And.intro rfl (And.intro rfl (And.intro rfl (And.intro rfl (And.intro rfl (And.intro rfl (And.intro rfl (And.intro hb (And.intro (by decide) (And.intro (by decide) ?_))))))))))))
      | refine Exists.intro l (And.intro ⟨_, _, _, _, _, _, rfl⟩ (And.intro hb (And.intro (by decide) (And.intro (by decide) ?_))))
      | refine And.intro (fun h1 => ?_) (fun h1 => ?_)
      | fail) <;> try first | cases h1 | (exfalso; simp at h1; done) | (exfalso; simp at h1; omega))
  refine Or.inl ?_
  repeat' ((first
      | refine Exists.intro _ (And.intro (lendD _ _) (And.intro (List.length_map _) ?_))
      | refine Exists.intro _ (And.intro (lendT4 _) (And.intro rfl ?_))
      | refine Exists.intro _ (And.intro (lendK (mkG_len _ _)).1 (And.intro (lendK (mkG_len _ _)).2 ?_))
      | refine Exists.intro _ (And.intro (lendK (marksInt_len _ _)).1 (And.intro (lendK (marksInt_len _ _)).2 ?_))
      | refine And.intro (closed_Module _) ?_
      | refine And.intro (closed_Place _) ?_
      | refine And.intro (closed_Int _) ?_
      | refine And.intro (closed_TargetS _) ?_
      | refine Exists.intro ms (And.intro rfl (And.intro hsm (And.intro hl ?_)))
      | (refine Exists.intro ms (And.intro rfl (And.intro hl (And.intro hsm ?_))); rw [hLL, hCC])
      | refine Exists.intro l (And.intro ⟨_, _, _, _, _, _, rfl⟩ (And.intro ⟨_, _, _, _, _, _, rfl⟩ (And.intro hb ?_)))
      | refine Exists.intro ms (And.intro rfl (And.intro rfl (And.intro hsm (And.intro hl ?_))))
      | (refine Exists.intro ms (And.intro rfl (And.intro rfl (And.intro hw (And.intro rfl ?_)))); intro q cs hq hcs)
      | refine Exists.intro l (And.intro rfl (And.intro rfl (And.intro rfl (And.intro rfl (And.intro rfl (And.intro rfl (And.intro rfl (And.intro rfl (And.intro rfl (And.intro hb (And.intro (by decide) (And.intro (by decide) ?_))))))))))))
      | refine Exists.intro l (And.intro ⟨_, _, _, _, _, _, rfl⟩ (And.intro hb (And.intro (by decide) (And.intro (by decide) ?_))))
      | refine And.intro (fun h1 => ?_) (fun h1 => ?_)
      | fail) <;> try first | cases h1 | (exfalso; simp at h1; done) | (exfalso; simp at h1; omega))
  refine Or.inl ?_
  repeat' ((first
      | refine Exists.intro _ (And.intro (lendD _ _) (And.intro (List.length_map _) ?_))
      | refine Exists.intro _ (And.intro (lendT4 _) (And.intro rfl ?_))
      | refine Exists.intro _ (And.intro (lendK (mkG_len _ _)).1 (And.intro (lendK (mkG_len _ _)).2 ?_))
      | refine Exists.intro _ (And.intro (lendK (marksInt_len _ _)).1 (And.intro (lendK (marksInt_len _ _)).2 ?_))
      | refine And.intro (closed_Module _) ?_
      | refine And.intro (closed_Place _) ?_
      | refine And.intro (closed_Int _) ?_
      | refine And.intro (closed_TargetS _) ?_
      | refine Exists.intro ms (And.intro rfl (And.intro hsm (And.intro hl ?_)))
      | (refine Exists.intro ms (And.intro rfl (And.intro hl (And.intro hsm ?_))); rw [hLL, hCC])
      | refine Exists.intro l (And.intro ⟨_, _, _, _, _, _, rfl⟩ (And.intro ⟨_, _, _, _, _, _, rfl⟩ (And.intro hb ?_)))
      | refine Exists.intro ms (And.intro rfl (And.intro rfl (And.intro hsm (And.intro hl ?_))))
      | (refine Exists.intro ms (And.intro rfl (And.intro rfl (And.intro hw (And.intro rfl ?_)))); intro q cs hq hcs)
      | refine Exists.intro l (And.intro rfl (And.intro rfl (And.intro rfl (And.intro rfl (And.intro rfl (And.intro rfl (And.intro rfl (And.intro rfl (And.intro rfl (And.intro hb (And.intro (by decide) (And.intro (by decide) ?_))))))))))))
      | refine Exists.intro l (And.intro ⟨_, _, _, _, _, _, rfl⟩ (And.intro hb (And.intro (by decide) (And.intro (by decide) ?_))))
      | refine And.intro (fun h1 => ?_) (fun h1 => ?_)
      | fail) <;> try first | cases h1 | (exfalso; simp at h1; done) | (exfalso; simp at h1; omega))
  refine Or.inl ?_
  repeat' ((first
      | refine Exists.intro _ (And.intro (lendD _ _) (And.intro (List.length_map _) ?_))
      | refine Exists.intro _ (And.intro (lendT4 _) (And.intro rfl ?_))
      | refine Exists.intro _ (And.intro (lendK (mkG_len _ _)).1 (And.intro (lendK (mkG_len _ _)).2 ?_))
      | refine Exists.intro _ (And.intro (lendK (marksInt_len _ _)).1 (And.intro (lendK (marksInt_len _ _)).2 ?_))
      | refine And.intro (closed_Module _) ?_
      | refine And.intro (closed_Place _) ?_
      | refine And.intro (closed_Int _) ?_
      | refine And.intro (closed_TargetS _) ?_
      | refine Exists.intro ms (And.intro rfl (And.intro hsm (And.intro hl ?_)))
      | (refine Exists.intro ms (And.intro rfl (And.intro hl (And.intro hsm ?_))); rw [hLL, hCC])
      | refine Exists.intro l (And.intro ⟨_, _, _, _, _, _, rfl⟩ (And.intro ⟨_, _, _, _, _, _, rfl⟩ (And.intro hb ?_)))
      | refine Exists.intro ms (And.intro rfl (And.intro rfl (And.intro hsm (And.intro hl ?_))))
      | (refine Exists.intro ms (And.intro rfl (And.intro rfl (And.intro hw (And.intro rfl ?_)))); intro q cs hq hcs)
      | refine Exists.intro l (And.intro rfl (And.intro rfl (And.intro rfl (And.intro rfl (And.intro rfl (And.intro rfl (And.intro rfl (And.intro rfl (And.intro rfl (And.intro hb (And.intro (by decide) (And.intro (by decide) ?_))))))))))))
      | refine Exists.intro l (And.intro ⟨_, _, _, _, _, _, rfl⟩ (And.intro hb (And.intro (by decide) (And.intro (by decide) ?_))))
      | refine And.intro (fun h1 => ?_) (fun h1 => ?_)
      | fail) <;> try first | cases h1 | (exfalso; simp at h1; done) | (exfalso; simp at h1; omega))
  refine Or.inl ?_
  repeat' ((first
      | refine Exists.intro _ (And.intro (lendD _ _) (And.intro (List.length_map _) ?_))
      | refine Exists.intro _ (And.intro (lendT4 _) (And.intro rfl ?_))
      | refine Exists.intro _ (And.intro (lendK (mkG_len _ _)).1 (And.intro (lendK (mkG_len _ _)).2 ?_))
      | refine Exists.intro _ (And.intro (lendK (marksInt_len _ _)).1 (And.intro (lendK (marksInt_len _ _)).2 ?_))
      | refine And.intro (closed_Module _) ?_
      | refine And.intro (closed_Place _) ?_
      | refine And.intro (closed_Int _) ?_
      | refine And.intro (closed_TargetS _) ?_
      | refine Exists.intro ms (And.intro rfl (And.intro hsm (And.intro hl ?_)))
      | (refine Exists.intro ms (And.intro rfl (And.intro hl (And.intro hsm ?_))); rw [hLL, hCC])
      | refine Exists.intro l (And.intro ⟨_, _, _, _, _, _, rfl⟩ (And.intro ⟨_, _, _, _, _, _, rfl⟩ (And.intro hb ?_)))
      | refine Exists.intro ms (And.intro rfl (And.intro rfl (And.intro hsm (And.intro hl ?_))))
      | (refine Exists.intro ms (And.intro rfl (And.intro rfl (And.intro hw (And.intro rfl ?_)))); intro q cs hq hcs)
      | refine Exists.intro l (And.intro rfl (And.intro rfl (And.intro rfl (And.intro rfl (And.intro rfl (And.intro rfl (And.intro rfl (And.intro rfl (And.intro rfl (And.intro hb (And.intro (by decide) (And.intro (by decide) ?_))))))))))))
      | refine Exists.intro l (And.intro ⟨_, _, _, _, _, _, rfl⟩ (And.intro hb (And.intro (by decide) (And.intro (by decide) ?_))))
      | refine And.intro (fun h1 => ?_) (fun h1 => ?_)
      | fail) <;> try first | cases h1 | (exfalso; simp at h1; done) | (exfalso; simp at h1; omega))
  refine Or.inr (Exists.intro true (Exists.intro [0, 3, 6, 7] (Exists.intro (fun vs h => vs = [.imm false false 8 (ms.map moC), .ptr 0 0 0 4, .ptr 1 0 0 6, .v (.int .i64 n)] ∧
    h = [.box [.v (.int .i64 a), .v (.int .i64 b), .v (.int .i64 c), .v (.int .i64 d)], .box [.sl 4 (l.pls.map plC), .v (.int .i64 l.stack), .sl 1 (l.slots.map intC), .v (.int .i64 l.flash), .v (.int .i64 l.ram), .sl 1 (l.tgts.map tgsC)]]) (And.intro ?_ ?_))))
  · refine And.intro (fun h1 => by exfalso; simp at h1; done) (fun h1 => ?_)
    all_goals refine Exists.intro [] ?_
    all_goals repeat' (first
      | refine Exists.intro _ (And.intro (lendL _ _) (And.intro (List.length_map _) (And.intro (closed_Place _) ?_)))
      | refine Exists.intro _ (And.intro (lendL _ _) (And.intro (List.length_map _) (And.intro (closed_Int _) ?_)))
      | refine Exists.intro _ (And.intro (lendL _ _) (And.intro (List.length_map _) (And.intro (closed_TargetS _) ?_)))
      | refine Exists.intro _ (And.intro List.take_length (And.intro rfl (And.intro (closed_Place _) ?_)))
      | refine Exists.intro _ (And.intro List.take_length (And.intro rfl (And.intro (closed_Int _) ?_)))
      | refine Exists.intro _ (And.intro List.take_length (And.intro rfl (And.intro (closed_TargetS _) ?_)))
      | fail)
    all_goals exact And.intro rfl rfl
  intro vs h hI
  obtain ⟨rfl, rfl⟩ := hI
  refine Or.inr (Exists.intro true (Exists.intro [6, 7, 14, 15] (Exists.intro (fun vs h => vs = [.ptr 0 0 0 6, .v (.int .i64 n), .ptr 1 0 0 6, .v (.int .i64 n)] ∧ h = [.box [.sl 4 (l.pls.map plC), .v (.int .i64 l.stack), .sl 1 (l.slots.map intC), .v (.int .i64 l.flash), .v (.int .i64 l.ram), .sl 1 (l.tgts.map tgsC)], .box [.sl 4 (l.pls.map plC), .v (.int .i64 l.stack), .sl 1 (l.slots.map intC), .v (.int .i64 l.flash), .v (.int .i64 l.ram), .sl 1 (l.tgts.map tgsC)]]) (And.intro ?_ ?_))))
  · refine Or.inl ?_
    refine And.intro (show wfB _ = true from by kernel_rfl) ?_
    repeat' (first
      | (refine Exists.intro ms ?_; refine And.intro rfl ?_; refine And.intro hsm ?_; refine And.intro hl ?_; exact And.intro rfl rfl)
      | refine Exists.intro _ (And.intro (lendD _ _) (And.intro (List.length_map _) ?_))
      | refine And.intro (closed_Module _) ?_
      | (refine Exists.intro ms ?_; refine And.intro rfl ?_; refine And.intro hl ?_; refine And.intro hsm ?_; rw [hLL, hCC]; exact And.intro rfl rfl)
      | refine And.intro (show wfB _ = true from by kernel_rfl) ?_ | refine And.intro (And.intro rfl rfl) ?_ | exact And.intro rfl rfl | apply HeldC.intro | exact AV.top | (apply HeldF.intro; refine Exists.intro _ (And.intro (by assumption) ?_); refine And.intro (by decide) ?_; exact And.intro rfl rfl) | (refine And.intro (by (refine Exists.intro _ (And.intro (by assumption) ?_); refine And.intro (by decide) ?_; exact And.intro rfl rfl)) ?_) | refine Or.inl ?_
      | refine And.intro ?_ ?_
      | fail)
    all_goals refine Exists.intro [] ?_
    all_goals repeat' (first
      | refine Exists.intro _ (And.intro (lendL _ _) (And.intro (List.length_map _) (And.intro (closed_Place _) ?_)))
      | refine Exists.intro _ (And.intro (lendL _ _) (And.intro (List.length_map _) (And.intro (closed_Int _) ?_)))
      | refine Exists.intro _ (And.intro (lendL _ _) (And.intro (List.length_map _) (And.intro (closed_TargetS _) ?_)))
      | refine Exists.intro _ (And.intro List.take_length (And.intro rfl (And.intro (closed_Place _) ?_)))
      | refine Exists.intro _ (And.intro List.take_length (And.intro rfl (And.intro (closed_Int _) ?_)))
      | refine Exists.intro _ (And.intro List.take_length (And.intro rfl (And.intro (closed_TargetS _) ?_)))
      | fail)
    all_goals exact And.intro rfl rfl
  intro vs h hI
  obtain ⟨rfl, rfl⟩ := hI
  repeat' ((first
      | refine Exists.intro _ (And.intro (lendD _ _) (And.intro (List.length_map _) ?_))
      | refine Exists.intro _ (And.intro (lendT4 _) (And.intro rfl ?_))
      | refine Exists.intro _ (And.intro (lendK (mkG_len _ _)).1 (And.intro (lendK (mkG_len _ _)).2 ?_))
      | refine Exists.intro _ (And.intro (lendK (marksInt_len _ _)).1 (And.intro (lendK (marksInt_len _ _)).2 ?_))
      | refine And.intro (closed_Module _) ?_
      | refine And.intro (closed_Place _) ?_
      | refine And.intro (closed_Int _) ?_
      | refine And.intro (closed_TargetS _) ?_
      | refine Exists.intro ms (And.intro rfl (And.intro hsm (And.intro hl ?_)))
      | (refine Exists.intro ms (And.intro rfl (And.intro hl (And.intro hsm ?_))); rw [hLL, hCC])
      | refine Exists.intro l (And.intro ⟨_, _, _, _, _, _, rfl⟩ (And.intro ⟨_, _, _, _, _, _, rfl⟩ (And.intro hb ?_)))
      | refine Exists.intro ms (And.intro rfl (And.intro rfl (And.intro hsm (And.intro hl ?_))))
      | (refine Exists.intro ms (And.intro rfl (And.intro rfl (And.intro hw (And.intro rfl ?_)))); intro q cs hq hcs)
      | refine Exists.intro l (And.intro rfl (And.intro rfl (And.intro rfl (And.intro rfl (And.intro rfl (And.intro rfl (And.intro rfl (And.intro rfl (And.intro rfl (And.intro hb (And.intro (by decide) (And.intro (by decide) ?_))))))))))))
      | refine Exists.intro l (And.intro ⟨_, _, _, _, _, _, rfl⟩ (And.intro hb (And.intro (by decide) (And.intro (by decide) ?_))))
      | refine And.intro (fun h1 => ?_) (fun h1 => ?_)
      | fail) <;> try first | cases h1 | (exfalso; simp at h1; done) | (exfalso; simp at h1; omega))
  refine Or.inl ?_
  repeat' ((first
      | refine Exists.intro _ (And.intro (lendD _ _) (And.intro (List.length_map _) ?_))
      | refine Exists.intro _ (And.intro (lendT4 _) (And.intro rfl ?_))
      | refine Exists.intro _ (And.intro (lendK (mkG_len _ _)).1 (And.intro (lendK (mkG_len _ _)).2 ?_))
      | refine Exists.intro _ (And.intro (lendK (marksInt_len _ _)).1 (And.intro (lendK (marksInt_len _ _)).2 ?_))
      | refine And.intro (closed_Module _) ?_
      | refine And.intro (closed_Place _) ?_
      | refine And.intro (closed_Int _) ?_
      | refine And.intro (closed_TargetS _) ?_
      | refine Exists.intro ms (And.intro rfl (And.intro hsm (And.intro hl ?_)))
      | (refine Exists.intro ms (And.intro rfl (And.intro hl (And.intro hsm ?_))); rw [hLL, hCC])
      | refine Exists.intro l (And.intro ⟨_, _, _, _, _, _, rfl⟩ (And.intro ⟨_, _, _, _, _, _, rfl⟩ (And.intro hb ?_)))
      | refine Exists.intro ms (And.intro rfl (And.intro rfl (And.intro hsm (And.intro hl ?_))))
      | (refine Exists.intro ms (And.intro rfl (And.intro rfl (And.intro hw (And.intro rfl ?_)))); intro q cs hq hcs)
      | refine Exists.intro l (And.intro rfl (And.intro rfl (And.intro rfl (And.intro rfl (And.intro rfl (And.intro rfl (And.intro rfl (And.intro rfl (And.intro rfl (And.intro hb (And.intro (by decide) (And.intro (by decide) ?_))))))))))))
      | refine Exists.intro l (And.intro ⟨_, _, _, _, _, _, rfl⟩ (And.intro hb (And.intro (by decide) (And.intro (by decide) ?_))))
      | refine And.intro (fun h1 => ?_) (fun h1 => ?_)
      | fail) <;> try first | cases h1 | (exfalso; simp at h1; done) | (exfalso; simp at h1; omega))
  all_goals exact rfl
end Go.Proofs.Ytijjonafmmhhbaa.Ab
