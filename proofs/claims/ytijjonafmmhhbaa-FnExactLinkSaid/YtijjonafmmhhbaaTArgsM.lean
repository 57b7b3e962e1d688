/- What a law's arguments are: modules. No condition. -/
import Derived.Test.YtijjonafmmhhbaaTMod3
import Derived.Test.YtijjonafmmhhbaaTArgs2
namespace Go.Proofs.Ytijjonafmmhhbaa.Ab
set_option maxRecDepth 100000

theorem list_sh {β : Type} {C : β → List AV} {Q : β → Prop} {S : List AV → Prop} (h : ∀ el, S el → ∃ b, el = C b ∧ Q b) : ∀ (ll : List (List AV)), (∀ el ∈ ll, S el) → ∃ bs : List β, ll = bs.map C ∧ ∀ b ∈ bs, Q b
  | [], _ => ⟨[], rfl, fun _ h => by cases h⟩
  | el :: ll, hl => by
    obtain ⟨bs, rfl, hb⟩ := list_sh h ll fun e he => hl e (List.mem_cons_of_mem _ he)
    obtain ⟨b, rfl, hq⟩ := h el (hl _ List.mem_cons_self)
    refine ⟨b :: bs, rfl, fun x hx => ?_⟩
    rcases List.mem_cons.1 hx with rfl | hx
    · exact hq
    · exact hb x hx
theorem sh_slice {n : Nat} {t e : TypeId} {k : Nat} {β : Type} {C : β → List AV} {Q : β → Prop} {c : List AV} (ht : Try.prog.underlying t = some (.slice e)) (hk : Try.prog.cellsOf e = k) (h : ∀ el, Sh Try.prog n e el → ∃ b, el = C b ∧ Q b)
    (hs : Sh Try.prog (n + 1) t c) : ∃ bs : List β, c = [.sl k (bs.map C)] ∧ (∀ b ∈ bs, Q b) ∧ bs.length ≤ maxLen := by
  unfold Sh at hs
  simp only [ht, hk] at hs
  obtain ⟨l1, rfl, t1, _, m1⟩ := hs
  obtain ⟨bs, rfl, hb⟩ := list_sh h l1 t1
  exact ⟨bs, rfl, hb, by simpa using m1⟩
theorem sh_intC {n : Nat} (el : List AV) (hs : Sh Try.prog (n + 1) 3 el) : ∃ a, el = intC a ∧ I64 a := by
  simp only [Sh, Try.underlying3] at hs
  obtain ⟨w, rfl, hw⟩ := hs
  exact ⟨w, rfl, wf_i64 hw⟩
theorem sh_str {n : Nat} (el : List AV) (hs : Sh Try.prog (n + 1) 9 el) : ∃ s, el = strC s ∧ bigStr s := by
  simp only [Sh, Try.underlying9] at hs
  obtain ⟨w, rfl, hw⟩ := hs
  exact ⟨w, rfl, hw⟩
theorem sh_intS {n : Nat} (el : List AV) (hs : Sh Try.prog (n + 2) 23 el) : ∃ b, el = bankC b ∧ (∀ x ∈ b, I64 x) ∧ bigBank b := by
  obtain ⟨bs, rfl, h1, h2⟩ := sh_slice Try.underlying23 (show Try.prog.cellsOf 3 = 1 by kernel_rfl) sh_intC hs
  exact ⟨bs, rfl, h1, h2⟩
theorem sh_ex {n : Nat} (el : List AV) (hs : Sh Try.prog (n + 2) 160 el) : ∃ e, el = exC e ∧ bigEx e ∧ I64 e.bank ∧ I64 e.pos := by
  unfold Sh at hs
  simp only [Try.underlying160] at hs
  obtain ⟨_, _, rfl, s1, _, _, rfl, s2, _, _, rfl, s3, rfl⟩ := hs
  obtain ⟨a, rfl, ha⟩ := sh_str _ s1
  obtain ⟨b, rfl, hb⟩ := sh_intC _ s2
  obtain ⟨c, rfl, hc⟩ := sh_intC _ s3
  exact ⟨⟨a, b, c⟩, rfl, ha, hb, hc⟩
structure OkMo (m : Mo) : Prop where
  big : bigMo m
  text : ∀ x ∈ m.text, I64 x
  banks : ∀ b ∈ m.banks, ∀ x ∈ b, I64 x
  data : BytesOk m.data
  bss : I64 m.bss
  rels : ∀ x ∈ m.rels, I64 x
  exps : ∀ e ∈ m.exps, I64 e.bank ∧ I64 e.pos
theorem sh_mo {n : Nat} (el : List AV) (hs : Sh Try.prog (n + 4) 102 el) : ∃ m, el = moC m ∧ OkMo m := by
  unfold Sh at hs
  simp only [Try.underlying102] at hs
  obtain ⟨_, _, rfl, s1, _, _, rfl, s2, _, _, rfl, s3, _, _, rfl, s4, _, _, rfl, s5, _, _, rfl, s6, _, _, rfl, s7, _, _, rfl, s8, rfl⟩ := hs
  obtain ⟨a1, rfl, h1⟩ := sh_str _ s1
  obtain ⟨a2, rfl, h2, g2⟩ := sh_intS _ s2
  obtain ⟨a3, rfl, h3, g3⟩ := sh_slice Try.underlying24 (show Try.prog.cellsOf 23 = 1 by kernel_rfl) sh_intS s3
  obtain ⟨a4, rfl, h4, g4⟩ := sh_byteS Try.underlying22 s4
  obtain ⟨a5, rfl, h5⟩ := sh_intC _ s5
  obtain ⟨a6, rfl, h6, g6⟩ := sh_intS _ s6
  obtain ⟨a7, rfl, h7, g7⟩ := sh_slice Try.underlying25 (show Try.prog.cellsOf 9 = 1 by kernel_rfl) sh_str s7
  obtain ⟨a8, rfl, h8, g8⟩ := sh_slice Try.underlying100 (show Try.prog.cellsOf 160 = 3 by kernel_rfl) sh_ex s8
  exact ⟨⟨a1, a2, a3, a4, a5, a6, a7, a8⟩, rfl, ⟨h1, g2, g3, fun b hb => (h3 b hb).2, g4, g6, g7, h7, g8, fun e he => (h8 e he).1⟩, h2, fun b hb => (h3 b hb).1, h4, h5, h6, fun e he => (h8 e he).2⟩
theorem arg_mo {n : Nat} {c : List AV} {x : AV} (hs : Sh Try.prog (n + 4) 102 c) (ha : ArgOf Try.prog 102 c x) : ∃ m, MoV x m ∧ OkMo m := by
  simp only [ArgOf, Try.underlying102] at ha
  obtain ⟨m, rfl, hm⟩ := sh_mo _ hs
  exact ⟨m, ⟨_, _, _, _, _, _, _, _, _, _, _, _, ha⟩, hm⟩
theorem arg_moS {n : Nat} {c : List AV} {x : AV} (hs : Sh Try.prog (n + 5) 40 c) (ha : ArgOf Try.prog 40 c x) : ∃ ms : List Mo, x = .imm false false 8 (ms.map moC) ∧ (∀ m ∈ ms, OkMo m) ∧ ms.length ≤ maxLen := by
  obtain ⟨ms, rfl, h1, h2⟩ := sh_slice Try.underlying40 (show Try.prog.cellsOf 102 = 8 by kernel_rfl) sh_mo hs
  simp only [ArgOf, Try.underlying40] at ha
  obtain ⟨a, ha, rfl⟩ := ha
  cases ha
  exact ⟨ms, rfl, h1, h2⟩
theorem arg_str {n : Nat} {c : List AV} {x : AV} (hs : Sh Try.prog (n + 1) 9 c) (ha : ArgOf Try.prog 9 c x) : ∃ s, x = .v (.string s) ∧ bigStr s := by
  obtain ⟨s, rfl, h1⟩ := sh_str _ hs
  simp only [ArgOf, Try.underlying9] at ha
  obtain ⟨a, ha, rfl⟩ := ha
  cases ha
  exact ⟨s, rfl, h1⟩
end Go.Proofs.Ytijjonafmmhhbaa.Ab
