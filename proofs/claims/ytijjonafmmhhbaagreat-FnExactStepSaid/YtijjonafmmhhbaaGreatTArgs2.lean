/- What a law's arguments are: lists of regions. No condition. -/
import Derived.Test.YtijjonafmmhhbaaGreatTArgs
import Derived.Test.YtijjonafmmhhbaaGreatTRegs
namespace Go.Proofs.YtijjonafmmhhbaaGreat.Ab
set_option maxRecDepth 100000

theorem list_of {R : Type} {C : R → List AV} {S : List AV → Prop} {Q : R → Prop} (h : ∀ el, S el → ∃ r, el = C r ∧ Q r) : ∀ ll : List (List AV), (∀ el ∈ ll, S el) → ∃ rs : List R, ll = rs.map C ∧ ∀ r ∈ rs, Q r
  | [], _ => ⟨[], rfl, fun _ h => by cases h⟩
  | el :: ll, hs => by
    obtain ⟨rs, rfl, hq⟩ := list_of h ll fun e he => hs e (List.mem_cons_of_mem _ he)
    obtain ⟨r, rfl, h1⟩ := h el (hs el List.mem_cons_self)
    refine ⟨r :: rs, rfl, fun q hq' => ?_⟩
    rcases List.mem_cons.1 hq' with rfl | h2
    · exact h1
    · exact hq q h2
theorem sh_int {n : Nat} {c : List AV} (hs : Sh Tryz.prog (n + 1) 3 c) : ∃ a, c = [.v (.int .i64 a)] ∧ I64 a := by
  simp only [Sh, Tryz.underlying3] at hs
  obtain ⟨w, rfl, hw⟩ := hs
  exact ⟨w, rfl, wf_i64 hw⟩
theorem sh_bool {n : Nat} {c : List AV} (hs : Sh Tryz.prog (n + 1) 4 c) : ∃ a, c = [.v (.bool a)] := by
  simp only [Sh, Tryz.underlying4] at hs
  exact hs
theorem sh_reg {n : Nat} {c : List AV} (hs : Sh Tryz.prog (n + 2) 102 c) : ∃ r, c = regC r ∧ I64 r.b ∧ I64 r.l ∧ I64 r.o := by
  unfold Sh at hs
  simp only [Tryz.underlying102] at hs
  obtain ⟨_, _, rfl, s1, _, _, rfl, s2, _, _, rfl, s3, _, _, rfl, s4, _, _, rfl, s5, _, _, rfl, s6, rfl⟩ := hs
  obtain ⟨a, rfl, ha⟩ := sh_int s1
  obtain ⟨b, rfl, hb⟩ := sh_int s2
  obtain ⟨c, rfl, hc⟩ := sh_int s3
  obtain ⟨d, rfl⟩ := sh_bool s4
  obtain ⟨e, rfl⟩ := sh_bool s5
  obtain ⟨f, rfl⟩ := sh_bool s6
  exact ⟨⟨a, b, c, d, e, f⟩, rfl, ha, hb, hc⟩
theorem sh_regS {n : Nat} {c : List AV} (hs : Sh Tryz.prog (n + 3) 37 c) : ∃ rs : List Rg, c = [.sl 6 (rs.map regC)] ∧ rs.length ≤ maxLen := by
  have h5 : Tryz.prog.cellsOf 102 = 6 := by kernel_rfl
  unfold Sh at hs
  simp only [Tryz.underlying37, h5] at hs
  obtain ⟨l1, rfl, t1, _, m1⟩ := hs
  obtain ⟨rs, rfl, _⟩ := list_of (fun el h => sh_reg h) l1 t1
  exact ⟨rs, rfl, by simpa using m1⟩
theorem arg_regS {n : Nat} {c : List AV} {x : AV} (hs : Sh Tryz.prog (n + 3) 37 c) (ha : ArgOf Tryz.prog 37 c x) : ∃ rs : List Rg, x = .imm false false 6 (rs.map regC) ∧ rs.length ≤ maxLen := by
  obtain ⟨rs, rfl, h1⟩ := sh_regS hs
  simp only [ArgOf, Tryz.underlying37] at ha
  obtain ⟨a, ha, rfl⟩ := ha
  cases ha
  exact ⟨rs, rfl, h1⟩

theorem lendC {R : Type} (C : R → List AV) (bs : List R) : List.take bs.length (List.drop 0 (bs.map C)) = bs.map C := by rw [List.drop_zero, ← List.length_map (f := C), List.take_length]
end Go.Proofs.YtijjonafmmhhbaaGreat.Ab
