/- What a law's arguments are: lists of regions. No condition. -/
import Derived.Test.YtegcfogbdgmajaaTArgs
import Derived.Test.YtegcfogbdgmajaaTRegs
namespace Go.Proofs.Ytegcfogbdgmajaa.Ab
set_option maxRecDepth 100000

theorem list_of {R : Type} {C : R → List AV} {S : List AV → Prop} {Q : R → Prop} (h : ∀ el, S el → ∃ r, el = C r ∧ Q r) : ∀ ll : List (List AV), (∀ el ∈ ll, S el) → ∃ rs : List R, ll = rs.map C ∧ ∀ r ∈ rs, Q r
  | [], _ => ⟨[], rfl, fun _ h => by cases h⟩
  | el :: ll, hs => by
    obtain ⟨rs, rfl, hq⟩ := list_of h ll fun e he => hs e (List.mem_cons_of_mem _ he)
    obtain ⟨r, rfl, h1⟩ := h el (hs el List.mem_cons_self)
    refine ⟨r :: rs, rfl, fun q hq' => ?_⟩
    rcases List.mem_cons.1 hq' with rfl | h2
    · exact h1
    · exact hq q h2
theorem sh_int {n : Nat} {c : List AV} (hs : Sh Try.prog (n + 1) 3 c) : ∃ a, c = [.v (.int .i64 a)] ∧ I64 a := by
  simp only [Sh, Try.underlying3] at hs
  obtain ⟨w, rfl, hw⟩ := hs
  exact ⟨w, rfl, wf_i64 hw⟩
theorem sh_bool {n : Nat} {c : List AV} (hs : Sh Try.prog (n + 1) 4 c) : ∃ a, c = [.v (.bool a)] := by
  simp only [Sh, Try.underlying4] at hs
  exact hs
theorem sh_reg {n : Nat} {c : List AV} (hs : Sh Try.prog (n + 2) 112 c) : ∃ r, c = regC r ∧ I64 r.b ∧ I64 r.l ∧ I64 r.o := by
  unfold Sh at hs
  simp only [Try.underlying112] at hs
  obtain ⟨_, _, rfl, s1, _, _, rfl, s2, _, _, rfl, s3, _, _, rfl, s4, _, _, rfl, s5, _, _, rfl, s6, rfl⟩ := hs
  obtain ⟨a, rfl, ha⟩ := sh_int s1
  obtain ⟨b, rfl, hb⟩ := sh_int s2
  obtain ⟨c, rfl, hc⟩ := sh_int s3
  obtain ⟨d, rfl⟩ := sh_bool s4
  obtain ⟨e, rfl⟩ := sh_bool s5
  obtain ⟨f, rfl⟩ := sh_bool s6
  exact ⟨⟨a, b, c, d, e, f⟩, rfl, ha, hb, hc⟩
theorem sh_regS {n : Nat} {c : List AV} (hs : Sh Try.prog (n + 3) 43 c) : ∃ rs : List Rg, c = [.sl 6 (rs.map regC)] ∧ rs.length ≤ maxLen := by
  have h5 : Try.prog.cellsOf 112 = 6 := by kernel_rfl
  unfold Sh at hs
  simp only [Try.underlying43, h5] at hs
  obtain ⟨l1, rfl, t1, _, m1⟩ := hs
  obtain ⟨rs, rfl, _⟩ := list_of (fun el h => sh_reg h) l1 t1
  exact ⟨rs, rfl, by simpa using m1⟩
theorem arg_regS {n : Nat} {c : List AV} {x : AV} (hs : Sh Try.prog (n + 3) 43 c) (ha : ArgOf Try.prog 43 c x) : ∃ rs : List Rg, x = .imm false false 6 (rs.map regC) ∧ rs.length ≤ maxLen := by
  obtain ⟨rs, rfl, h1⟩ := sh_regS hs
  simp only [ArgOf, Try.underlying43] at ha
  obtain ⟨a, ha, rfl⟩ := ha
  cases ha
  exact ⟨rs, rfl, h1⟩

theorem lendC {R : Type} (C : R → List AV) (bs : List R) : List.take bs.length (List.drop 0 (bs.map C)) = bs.map C := by rw [List.drop_zero, ← List.length_map (f := C), List.take_length]
def cx6 : Ctx := mkC [(27, iSzRegionS), (29, callM [] true hToRegion), (28, callM [] true hAllow), (30, callM [] true hAllow), (31, callM [] true hEqRegion)]
theorem cx6_ok : CtxOk Try.prog cx6 := mkC_ok (mem1 ⟨s_iSzRegionS, fnOk Try.func27 rfl rfl⟩ (mem1 ⟨s_toRegionS, fnOk Try.func29 rfl rfl⟩ (mem1 ⟨s_spec_Allowed, fnOk Try.func28 rfl rfl⟩ (mem1 ⟨s_impl_Allowed, fnOk Try.func30 rfl rfl⟩ (mem1 ⟨s_eqRegionS, fnOk Try.func31 rfl rfl⟩ mem0)))))
set_option maxRecDepth 100000 in
set_option maxHeartbeats 1000000 in
set_option pp.maxSteps 1500 in
theorem s6 (xs : List AV) (hx : ArgsOf Try.prog 3 [43, 3, 3, 3] xs) : inlH cx6 Try.f6.ntmps Try.f6.results.toList (Try.f6.body.getD .skip) xs [] fun x _ => x = .v (.bool true) := by
  obtain ⟨x, _, l1, rfl, hs, ha, x2, _, l2, rfl, hs2, ha2, x3, _, l3, rfl, hs3, ha3, x4, _, l4, rfl, hs4, ha4, rfl⟩ := hx
  obtain ⟨rs, rfl, lr⟩ := arg_regS hs ha
  obtain ⟨a, rfl, wa⟩ := arg_int hs2 ha2
  obtain ⟨b, rfl, wb⟩ := arg_int hs3 ha3
  obtain ⟨c, rfl, wc⟩ := arg_int hs4 ha4
  have hmax : maxLen ≤ 9223372036854775807 := by decide
  refine And.intro (fun h1 => ?_) (fun h1 => ?_)
  · repeat' (refine And.intro (fun h1 => ?_) (fun h1 => ?_))
    · exact rfl
    · cases h1
  simp only [List.length_map, decide_eq_false_iff_not] at h1
  rw [wrap64 (by omega)] at h1
  refine And.intro (fun h2 => ?_) (fun h2 => ?_)
  · exact rfl
  have l1 : rs.length ≤ 1048576 := by omega
  repeat' (first
    | refine Exists.intro _ (And.intro (lendC regC _) (And.intro (List.length_map _) (And.intro (closed_Region _) ?_)))
    | refine Exists.intro rs (And.intro rfl (And.intro l1 ?_))
    | refine Exists.intro rs (And.intro rfl (And.intro wa (And.intro l1 ?_)))
    | refine Exists.intro rs (And.intro rfl (And.intro rfl (And.intro l1 ?_)))
    | refine And.intro (fun h1 => ?_) (fun h1 => ?_)
    | refine And.intro (show wfB _ = true from by kernel_rfl) ?_ | refine And.intro (And.intro rfl rfl) ?_ | exact And.intro rfl rfl | apply HeldC.intro | exact AV.top | (apply HeldF.intro; refine Exists.intro _ (And.intro (by assumption) ?_); refine And.intro (by decide) ?_; exact And.intro rfl rfl) | (refine And.intro (by (refine Exists.intro _ (And.intro (by assumption) ?_); refine And.intro (by decide) ?_; exact And.intro rfl rfl)) ?_) | refine Or.inl ?_
    | refine And.intro ?_ ?_)
  all_goals first
    | exact rfl
    | (exfalso; simp at *; done)
end Go.Proofs.Ytegcfogbdgmajaa.Ab
