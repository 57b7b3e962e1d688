/- FnAllowed: at drawn regions. No condition. -/
import Derived.Test.YtegcfogbdgmajaaTDrawR
namespace Go.Proofs.Ytegcfogbdgmajaa.Ab

def spanB (r : Rg) (a : Int) : Bool := r.ok && (decide (r.b ≤ a) && decide (a < r.b + 2 ^ r.l.toNat))
theorem spanB_any {rs : List Rg} {a b c : Int} (h : allowB rs a b c = true) : rs.any (fun r => spanB r a) = true := by
  simp only [allowB, Bool.and_eq_true, decide_eq_true_eq] at h
  obtain ⟨⟨⟨⟨_, hs⟩, _⟩, hok⟩, hall⟩ := h
  have hs : b = 1 ∨ b = 2 ∨ b = 4 := by simpa [widthB] using hs
  have h0 := List.all_eq_true.1 hall 0 (by simp; omega)
  simp only [Int.ofNat_zero, Int.add_zero, Int.natCast_zero] at h0
  apply Classical.byContradiction
  intro hn
  have hn : ∀ r ∈ rs, spanB r a = false := by
    intro r hr
    cases hq : spanB r a with
    | false => rfl
    | true => exact absurd (List.any_eq_true.2 ⟨r, hr, hq⟩) hn
  have key : ∀ (l : List Rg), (∀ r ∈ l, r ∈ rs) → l.foldl (fun ok r => if r.has a then r.lets c else ok) false = false := by
    intro l
    induction l with
    | nil => intro _; rfl
    | cons r l ih =>
      intro h
      have h1 := regsOk_mem hok r (h r List.mem_cons_self)
      have h2 := hn r (h r List.mem_cons_self)
      have h3 : r.has a = false := by
        simp only [spanB, h1, Bool.true_and, Bool.and_eq_false_iff, decide_eq_false_iff_not] at h2
        simp only [Rg.has, hasB, decide_eq_false_iff_not]
        rcases h2 with h2 | h2
        · exact fun h => h2 h.1
        · exact fun h => h2 h.2.1
      simp only [List.foldl_cons, h3]
      exact ih fun q hq => h q (List.mem_cons_of_mem _ hq)
  have := key rs fun _ h => h
  rw [show oneB rs a c = rs.foldl (fun ok r => if r.has a then r.lets c else ok) false from rfl, this] at h0
  cases h0
theorem any_take {rs : List Rg} {i : Nat} {r : Rg} {f : Rg → Bool} (h : rs[i]? = some r) : (rs.take (i + 1)).any f = ((rs.take i).any f || f r) := by
  rw [List.take_add_one, h]
  simp
def cx7 : Ctx := mkC [(32, callM [] false hDAllow), (30, callM [] true hAllow), (28, callM [] true hAllow), (33, callM [] false hReg), (34, callM [] false hReg), (35, callM [] true hSpan)]
theorem cx7_ok : CtxOk Try.prog cx7 := mkC_ok (mem1 ⟨s_DrawAllowed, fnOk Try.func32 rfl rfl⟩ (mem1 ⟨s_impl_Allowed, fnOk Try.func30 rfl rfl⟩ (mem1 ⟨s_spec_Allowed, fnOk Try.func28 rfl rfl⟩ (mem1 ⟨s_impl_RegionOk, fnOk Try.func33 rfl rfl⟩ (mem1 ⟨s_spec_RegionOk, fnOk Try.func34 rfl rfl⟩ (mem1 ⟨s_Span, fnOk Try.func35 rfl rfl⟩ mem0))))))
set_option maxRecDepth 100000 in
set_option maxHeartbeats 8000000 in
set_option pp.maxSteps 1500 in
theorem s7 (xs : List AV) (hx : ArgsOf Try.prog 3 [28] xs) : inlH cx7 Try.f7.ntmps Try.f7.results.toList (Try.f7.body.getD .skip) xs [] fun x _ => x = .v (.bool true) := by
  obtain ⟨x, _, c, rfl, hs, ha, rfl⟩ := hx
  obtain ⟨bs, rfl, hb, hm⟩ := arg_byteS hs ha
  refine And.intro (fun h1 => rfl) (fun h1 => ?_)
  refine Exists.intro bs (And.intro rfl (And.intro hb (And.intro hm ?_)))
  intro rs a b c lr wa
  refine Exists.intro _ (And.intro (lendC regC _) (And.intro (List.length_map _) (And.intro (closed_Region _) ?_)))
  refine Exists.intro rs (And.intro rfl (And.intro wa (And.intro (by omega) ?_)))
  refine Exists.intro _ (And.intro (lendC regC _) (And.intro (List.length_map _) (And.intro (closed_Region _) ?_)))
  refine Exists.intro rs (And.intro rfl (And.intro wa (And.intro (by omega) ?_)))
  refine And.intro (fun h2 => ?_) (fun h2 => ?_)
  · simp at h2
  clear h2
  refine Exists.intro true (Exists.intro [3, 4, 7, 8, 9] (Exists.intro (fun m vs h => ∃ i : Nat, i ≤ rs.length ∧ m = rs.length - i ∧ vs = [.slc 0 0 rs.length false, .v (.int .i64 a), .v (.bool (allowB rs a b c)), .v (.bool ((rs.take i).any fun r => spanB r a)), .v (.int .i64 i)] ∧ h = [.lst 6 (rs.map regC)]) (And.intro ?_ ?_)))
  · refine Exists.intro [] (And.intro (closed_Region rs) (Exists.intro rs.length ?_))
    exact ⟨0, by omega, rfl, rfl, rfl⟩
  · intro m vs h hI
    obtain ⟨i, hi, rfl, rfl, rfl⟩ := hI
    refine And.intro (fun h2 => ?_) (fun h2 => ?_)
    · simp only [decide_eq_true_eq] at h2
      have hlt : i < rs.length := by omega
      have hr : rs[i]? = some rs[i] := List.getElem?_eq_getElem hlt
      generalize rs[i] = r at hr
      have hg : (rs.map regC)[0 + i]? = some (regC r) := by rw [Nat.zero_add]; exact get_map hr
      have hst := any_take (f := fun r => spanB r a) hr
      generalize (List.take i rs).any (fun r => spanB r a) = Q at *
      repeat' ((first
        | refine Exists.intro i (And.intro rfl (And.intro hlt ?_))
        | refine Exists.intro _ (And.intro hg ?_)
        | refine And.intro (by decide) ?_
        | (refine And.intro (Exists.intro i (And.intro rfl (And.intro hlt (And.intro rfl rfl)))) ?_)
        | refine And.intro (fun h1 => ?_) (fun h1 => ?_)
        | refine And.intro (show wfB _ = true from by kernel_rfl) ?_ | refine And.intro (And.intro rfl rfl) ?_ | exact And.intro rfl rfl | apply HeldC.intro | (apply HeldF.intro; refine Exists.intro _ (And.intro (by assumption) ?_); refine And.intro (by decide) ?_; exact And.intro rfl rfl) | (refine And.intro (by (refine Exists.intro _ (And.intro (by assumption) ?_); refine And.intro (by decide) ?_; exact And.intro rfl rfl)) ?_) | refine Or.inl ?_) <;> try cases h1)
      · simp at h1
      · obtain ⟨l5, l14, o0, o1, b0, b1⟩ := regOk_spec h1
        obtain ⟨p0, p1⟩ := pow14 l5 l14
        have hok : r.ok = true := h1
        have hw : IntKind.i64.wrap (r.b + 2 ^ r.l.toNat) = r.b + 2 ^ r.l.toNat := wrap64 (by omega)
        refine And.intro (by omega) (And.intro (by omega) ?_)
        repeat' ((refine And.intro (fun h1 => ?_) (fun h1 => ?_)) <;> try cases h1)
        all_goals refine Exists.intro [] (And.intro (closed_Region rs) (Exists.intro (rs.length - (i + 1)) (And.intro (by omega) ⟨i + 1, by omega, rfl, ?_, rfl⟩)))
        all_goals rw [hst, wrap_succ hlt (by omega)]
        all_goals simp only [spanB, hok, Bool.true_and, hw] at *
        all_goals (clear hst hg hr; simp_all)
        all_goals omega
      · have hok : r.ok = false := h1
        refine Exists.intro [] (And.intro (closed_Region rs) (Exists.intro (rs.length - (i + 1)) (And.intro (by omega) ⟨i + 1, by omega, rfl, ?_, rfl⟩)))
        rw [hst, wrap_succ hlt (by omega)]
        simp [spanB, hok]
    · simp only [decide_eq_false_iff_not] at h2
      have hil : i = rs.length := by omega
      subst hil
      rw [List.take_length]
      have hsp := spanB_any (rs := rs) (a := a) (b := b) (c := c)
      repeat' ((refine And.intro (fun h1 => ?_) (fun h1 => ?_)) <;> try cases h1)
      · exact rfl
      · refine fin_t ?_
        cases hq : allowB rs a b c with
        | false => rfl
        | true => rw [hsp hq] at h1; cases h1
end Go.Proofs.Ytegcfogbdgmajaa.Ab
