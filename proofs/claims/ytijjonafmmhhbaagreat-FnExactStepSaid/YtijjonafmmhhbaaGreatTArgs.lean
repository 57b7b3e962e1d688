/- What a law's arguments are, for the types at hand. No condition. -/
import Derived.Test.YtijjonafmmhhbaaGreatTBase
namespace Go.Proofs.YtijjonafmmhhbaaGreat.Ab
set_option maxRecDepth 100000

def BytesOk (bs : List Int) : Prop := ∀ b ∈ bs, 0 ≤ b ∧ b ≤ 255
def I64 (n : Int) : Prop := -9223372036854775808 ≤ n ∧ n ≤ 9223372036854775807
theorem wf_i64 {n : Int} (h : (Lit.int .i64 n).wf = true) : I64 n := by
  simpa [Lit.wf, IntKind.min, IntKind.max, IntKind.bits, IntKind.signed, I64] using h
theorem wf_u8 {n : Int} (h : (Lit.int .u8 n).wf = true) : 0 ≤ n ∧ n ≤ 255 := by
  simpa [Lit.wf, IntKind.min, IntKind.max, IntKind.bits, IntKind.signed] using h
theorem bytes_sh {P : Program} {t : TypeId} {n : Nat} (hu : P.underlying t = some (.int .u8)) : ∀ (ll : List (List AV)), (∀ el ∈ ll, Sh P (n + 1) t el) → ∃ bs : List Int, ll = bs.map byteC ∧ BytesOk bs
  | [], _ => ⟨[], rfl, fun _ h => by cases h⟩
  | el :: ll, h => by
    obtain ⟨bs, rfl, hb⟩ := bytes_sh hu ll (fun e he => h e (List.mem_cons_of_mem _ he))
    have := h el List.mem_cons_self
    simp only [Sh, hu] at this
    obtain ⟨m, rfl, hw⟩ := this
    refine ⟨m :: bs, rfl, fun b hb' => ?_⟩
    rcases List.mem_cons.1 hb' with rfl | h2
    · exact wf_u8 hw
    · exact hb b h2
theorem arg_int {n : Nat} {c : List AV} {x : AV} (hs : Sh Tryz.prog (n + 1) 3 c) (ha : ArgOf Tryz.prog 3 c x) : ∃ a, x = .v (.int .i64 a) ∧ I64 a := by
  simp only [ArgOf, Tryz.underlying3] at ha
  simp only [Sh, Tryz.underlying3] at hs
  obtain ⟨w, rfl, hw⟩ := hs
  obtain ⟨a, ha, rfl⟩ := ha
  cases ha
  exact ⟨w, rfl, wf_i64 hw⟩
theorem sh_byteS {n : Nat} {t : TypeId} {c : List AV} (ht : Tryz.prog.underlying t = some (.slice 5)) (hs : Sh Tryz.prog (n + 2) t c) : ∃ bs, c = [.sl 1 (bs.map byteC)] ∧ BytesOk bs ∧ bs.length ≤ maxLen := by
  have h5 : Tryz.prog.cellsOf 5 = 1 := by kernel_rfl
  unfold Sh at hs
  simp only [ht, h5] at hs
  obtain ⟨l1, rfl, t1, _, m1⟩ := hs
  obtain ⟨a, rfl, ha⟩ := bytes_sh Tryz.underlying5 l1 t1
  exact ⟨a, rfl, ha, by simpa using m1⟩
theorem arg_byteS {n : Nat} {c : List AV} {x : AV} (hs : Sh Tryz.prog (n + 2) 22 c) (ha : ArgOf Tryz.prog 22 c x) : ∃ bs, x = .imm false false 1 (bs.map byteC) ∧ BytesOk bs ∧ bs.length ≤ maxLen := by
  obtain ⟨bs, rfl, h1, h2⟩ := sh_byteS Tryz.underlying22 hs
  simp only [ArgOf, Tryz.underlying22] at ha
  obtain ⟨a, ha, rfl⟩ := ha
  cases ha
  exact ⟨bs, rfl, h1, h2⟩
theorem arg_mem {n : Nat} {c : List AV} {x : AV} (hs : Sh Tryz.prog (n + 3) 27 c) (ha : ArgOf Tryz.prog 27 c x) : ∃ f r o, x = .agg [.imm false false 1 (f.map byteC), .imm false false 1 (r.map byteC), .imm false false 1 (o.map byteC)] ∧
    BytesOk f ∧ BytesOk r ∧ BytesOk o ∧ f.length ≤ maxLen ∧ r.length ≤ maxLen ∧ o.length ≤ maxLen := by
  simp only [ArgOf, Tryz.underlying27] at ha
  unfold Sh at hs
  simp only [Tryz.underlying27] at hs
  obtain ⟨_, _, rfl, s1, _, _, rfl, s2, _, _, rfl, s3, rfl⟩ := hs
  obtain ⟨f, rfl, f1, f2⟩ := sh_byteS Tryz.underlying22 s1
  obtain ⟨r, rfl, r1, r2⟩ := sh_byteS Tryz.underlying22 s2
  obtain ⟨o, rfl, o1, o2⟩ := sh_byteS Tryz.underlying22 s3
  exact ⟨f, r, o, ha, f1, r1, o1, f2, r2, o2⟩
end Go.Proofs.YtijjonafmmhhbaaGreat.Ab
