/- MemOk: the law's walk. No condition. -/
import Derived.Test.YtkbdjhhnpajidaaTMem2
namespace Go.Proofs.Ytkbdjhhnpajidaa.Ab

theorem bytes_list {P : Program} {t : TypeId} {n : Nat} (hu : P.underlying t = some (.int .u8)) : ∀ (ll : List (List AV)), (∀ el ∈ ll, Sh P (n + 1) t el) → ∃ bs : List Int, ll = bs.map byteC
  | [], _ => ⟨[], rfl⟩
  | el :: ll, h => by
    obtain ⟨bs, rfl⟩ := bytes_list hu ll (fun e he => h e (List.mem_cons_of_mem _ he))
    have := h el List.mem_cons_self
    simp only [Sh, hu] at this
    obtain ⟨m, rfl, _⟩ := this
    exact ⟨m :: bs, rfl⟩

theorem take_all {α : Type} (l : List α) : l = (l.drop 0).take l.length := by simp
def cx7 : Ctx := mkC [(17, callP pSzM), (19, callP pToM), (18, callP pMemOk), (20, callP pMemOk), (21, callP pEqM)]
theorem cx7_ok : CtxOk Try.prog cx7 := mkC_ok (mem1 ⟨s_szMem, fnOk Try.func17 rfl rfl⟩ (mem1 ⟨s_toMem, fnOk Try.func19 rfl rfl⟩
  (mem1 ⟨s_spec_MemOk, fnOk Try.func18 rfl rfl⟩ (mem1 ⟨s_impl_MemOk, fnOk Try.func20 rfl rfl⟩ (mem1 ⟨s_eqMem, fnOk Try.func21 rfl rfl⟩ mem0)))))

set_option maxRecDepth 100000 in
set_option maxHeartbeats 2000000 in
theorem s7 (xs : List AV) (hx : ArgsOf Try.prog 3 [44] xs) : isoH cx7 Try.f7.ntmps Try.f7.results.toList (Try.f7.body.getD .skip) xs [] fun x _ => x = .v (.bool true) := by
  obtain ⟨x, _, c, rfl, hs, ha, rfl⟩ := hx
  simp only [ArgOf, Try.underlying44] at ha
  have h5 : Try.prog.cellsOf 5 = 1 := by kernel_rfl
  unfold Sh at hs
  simp only [Try.underlying44] at hs
  obtain ⟨_, _, rfl, s1, _, _, rfl, s2, _, _, rfl, s3, rfl⟩ := hs
  unfold Sh at s1 s2 s3
  simp only [Try.underlying42, h5] at s1 s2 s3
  obtain ⟨l1, rfl, t1, _, m1⟩ := s1
  obtain ⟨l2, rfl, t2, _, m2⟩ := s2
  obtain ⟨l3, rfl, t3, _, m3⟩ := s3
  obtain ⟨a, rfl⟩ := bytes_list Try.underlying5 l1 t1
  obtain ⟨b, rfl⟩ := bytes_list Try.underlying5 l2 t2
  obtain ⟨c, rfl⟩ := bytes_list Try.underlying5 l3 t3
  subst ha
  have hmax : maxLen ≤ 9223372036854775807 := by decide
  refine ⟨rfl, ?_⟩
  refine And.intro (by decide) (And.intro (by decide) (And.intro (by omega) (And.intro (by omega) (And.intro (by omega) ?_))))
  refine And.intro (fun h1 => ?_) (fun h1 => ?_)
  · exact rfl
  have h1 := of_decide_eq_false h1
  have hl : a.length ≤ 1048576 ∧ b.length ≤ 1048576 ∧ c.length ≤ 1048576 := by
    simp only [szM, List.length_map] at h1
    split at h1 <;> omega
  obtain ⟨ha, hb, hc⟩ := hl
  clear h1 t1 t2 t3 m1 m2 m3
  refine Exists.intro a (Exists.intro b (Exists.intro c (And.intro rfl (And.intro rfl (And.intro rfl (And.intro ha (And.intro hb (And.intro hc ?_))))))))
  refine And.intro (byteC_lent a) (Exists.intro (a.map byteC) (And.intro (take_all _) (And.intro rfl ?_)))
  refine And.intro (byteC_lent b) (Exists.intro (b.map byteC) (And.intro (take_all _) (And.intro rfl ?_)))
  refine And.intro (byteC_lent c) (Exists.intro (c.map byteC) (And.intro (take_all _) (And.intro rfl ?_)))
  refine Exists.intro a (Exists.intro b (Exists.intro c (And.intro rfl (And.intro rfl (And.intro rfl (And.intro ha (And.intro hb (And.intro hc ?_))))))))
  refine And.intro (byteC_lent a) (Exists.intro (a.map byteC) (And.intro (take_all _) (And.intro rfl ?_)))
  refine And.intro (byteC_lent b) (Exists.intro (b.map byteC) (And.intro (take_all _) (And.intro rfl ?_)))
  refine And.intro (byteC_lent c) (Exists.intro (c.map byteC) (And.intro (take_all _) (And.intro rfl ?_)))
  refine And.intro (fun h1 => ?_) (fun h1 => ?_)
  · simp at h1
  repeat' (first
    | refine And.intro (byteC_lent a) (Exists.intro (a.map byteC) (And.intro (take_all _) (And.intro rfl ?_)))
    | refine And.intro (byteC_lent b) (Exists.intro (b.map byteC) (And.intro (take_all _) (And.intro rfl ?_)))
    | refine And.intro (byteC_lent c) (Exists.intro (c.map byteC) (And.intro (take_all _) (And.intro rfl ?_)))
    | refine Exists.intro a (Exists.intro b (Exists.intro c (And.intro rfl (And.intro rfl (And.intro rfl (And.intro ha (And.intro hb (And.intro hc ?_))))))))
    | refine Exists.intro a (Exists.intro b (Exists.intro c (And.intro rfl (And.intro rfl (And.intro rfl (And.intro rfl (And.intro rfl (And.intro rfl (And.intro ha (And.intro hb (And.intro hc ?_)))))))))))
    | refine And.intro (fun h1 => ?_) (fun h1 => ?_)
    | refine And.intro ?_ ?_)
  all_goals first
    | exact rfl
    | (exfalso; simp at *)
end Go.Proofs.Ytkbdjhhnpajidaa.Ab
