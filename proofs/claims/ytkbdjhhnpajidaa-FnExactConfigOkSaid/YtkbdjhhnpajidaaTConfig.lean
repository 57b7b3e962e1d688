/- ConfigOk: both programs answer alike. No condition. -/
import Derived.Test.YtkbdjhhnpajidaaAbTab
namespace Go.Proofs.Ytkbdjhhnpajidaa.Ab

def cx0 : Ctx := mkC []
theorem cx0_ok : CtxOk Try.prog cx0 := mkC_ok (fun p hp => by cases hp)

theorem fin_b {K : AV → HP → Prop} {h : HP} {x y : Bool} (hp : K (.v (.bool x)) h) (e : x = y) : K (.v (.bool y)) h := e ▸ hp

def hConv4 : Handler := fun args h K => match args with
  | [.agg [.v a, .v b, .v c, .v d]] => K (.agg [.v a, .v b, .v c, .v d]) h
  | _ => False
set_option maxRecDepth 100000 in
theorem s9 : HSound Try.prog 9 hConv4 := by
  refine (isoF cx0_ok mixed Try.func9 rfl).mono fun args h K hp => ?_
  unfold hConv4 at hp
  split at hp
  · refine ⟨rfl, ?_⟩
    exact hp
  · exact hp.elim

def cfgOk (a b c d : Int) : Bool := decide (0 ≤ a ∧ a ≤ 4 ∧ 1 ≤ b ∧ b ≤ 64 ∧ 0 ≤ c ∧ c ≤ 1024 ∧ c.tmod 32 = 0 ∧ 0 ≤ d ∧ d ≤ 100)
def hCfg : Handler := fun args h K => match args with
  | [.agg [.v (.int .i64 a), .v (.int .i64 b), .v (.int .i64 c), .v (.int .i64 d)]] => K (.v (.bool (cfgOk a b c d))) h
  | _ => False
set_option maxRecDepth 100000 in
theorem s10 : HSound Try.prog 10 hCfg := by
  refine (isoF cx0_ok mixed Try.func10 rfl).mono fun args h K hp => ?_
  unfold hCfg at hp
  split at hp
  · rename_i a b c d
    refine ⟨rfl, ?_⟩
    repeat' ((first | refine And.intro (fun h1 => ?_) (fun h1 => ?_) | refine And.intro (by decide) ?_) <;> try cases h1)
    all_goals refine fin_b hp ?_
    all_goals (clear hp; simp only [cfgOk]; generalize c.tmod 32 = r at *; simp only [decide_eq_true_eq, decide_eq_false_iff_not, beq_iff_eq, beq_eq_false_iff_ne, ne_eq, decide_eq_decide] at *; omega)
  · exact hp.elim

set_option maxRecDepth 100000 in
theorem s8 : HSound Try.prog 8 hCfg := by
  refine (isoF cx0_ok mixed Try.func8 rfl).mono fun args h K hp => ?_
  unfold hCfg at hp
  split at hp
  · rename_i a b c d
    refine ⟨rfl, ?_⟩
    repeat' ((first | refine And.intro (fun h1 => ?_) (fun h1 => ?_) | refine And.intro (by decide) ?_) <;> try cases h1)
    all_goals refine fin_b hp ?_
    all_goals (clear hp; simp only [cfgOk]; generalize c.tmod 32 = r at *; simp only [decide_eq_true_eq, decide_eq_false_iff_not, beq_iff_eq, beq_eq_false_iff_ne, ne_eq, decide_eq_decide] at *; omega)
  · exact hp.elim

def cx4 : Ctx := mkC [(8, hCfg), (9, hConv4), (10, hCfg)]
theorem cx4_ok : CtxOk Try.prog cx4 := mkC_ok (by
  simp only [List.mem_cons, List.not_mem_nil, or_false, forall_eq_or_imp, forall_eq]
  exact ⟨⟨s8, fnOk Try.func8 rfl rfl⟩, ⟨s9, fnOk Try.func9 rfl rfl⟩, ⟨s10, fnOk Try.func10 rfl rfl⟩⟩)

set_option maxRecDepth 100000 in
theorem s4 (xs : List AV) (hx : ArgsOf Try.prog 3 [24] xs) : isoH cx4 Try.f4.ntmps Try.f4.results.toList (Try.f4.body.getD .skip) xs [] fun x _ => x = .v (.bool true) := by
  obtain ⟨x, _, c, rfl, hs, ha, rfl⟩ := hx
  simp only [ArgOf, Try.underlying24] at ha
  simp only [Sh, Try.underlying24] at hs
  obtain ⟨_, _, rfl, ⟨a, rfl, _⟩, _, _, rfl, ⟨b, rfl, _⟩, _, _, rfl, ⟨c, rfl, _⟩, _, _, rfl, ⟨d, rfl, _⟩, rfl⟩ := hs
  subst ha
  refine ⟨rfl, ?_⟩
  repeat' ((first | refine And.intro (fun h1 => ?_) (fun h1 => ?_) | refine And.intro (by decide) ?_) <;> try cases h1)
  · simp at h1
  · exact rfl
end Go.Proofs.Ytkbdjhhnpajidaa.Ab
