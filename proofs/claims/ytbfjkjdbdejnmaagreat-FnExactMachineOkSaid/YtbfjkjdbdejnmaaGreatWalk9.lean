/- Functions walked, part 9. No condition. -/
import Derived.Test.YtbfjkjdbdejnmaaGreatWalk4
import Derived.Test.YtbfjkjdbdejnmaaGreatWalk8
import Derived.Test.YtbfjkjdbdejnmaaGreatWalk3
import Derived.Test.YtbfjkjdbdejnmaaGreatWalk6
import Derived.Test.YtbfjkjdbdejnmaaGreatWalk7
import Derived.Test.YtbfjkjdbdejnmaaGreatWalk1
import Derived.Test.YtbfjkjdbdejnmaaGreatWalk2
set_option linter.unusedVariables false
set_option linter.unusedSimpArgs false
/- Modules: marked. No condition. -/
namespace Go.Proofs.YtbfjkjdbdejnmaaGreat.Ab
set_option linter.unusedVariables false
set_option linter.unusedSimpArgs false

end Go.Proofs.YtbfjkjdbdejnmaaGreat.Ab

/- Modules: a whole one, marked. No condition. -/
namespace Go.Proofs.YtbfjkjdbdejnmaaGreat.Ab
set_option linter.unusedVariables false
set_option linter.unusedSimpArgs false

end Go.Proofs.YtbfjkjdbdejnmaaGreat.Ab

/- Modules of a list: marked. No condition. -/
namespace Go.Proofs.YtbfjkjdbdejnmaaGreat.Ab
set_option linter.unusedVariables false
set_option linter.unusedSimpArgs false

end Go.Proofs.YtbfjkjdbdejnmaaGreat.Ab

/- Layouts: compared, marked, found again. No condition. -/
namespace Go.Proofs.YtbfjkjdbdejnmaaGreat.Ab
set_option linter.unusedVariables false
set_option linter.unusedSimpArgs false

section
variable {α : Type} {w : α → Nat} {g : Int → α → α}
end
def wP (p : Pl) : Nat := p.banks.length + 3
def wT (t : List Tg) : Nat := 3 * t.length
abbrev sumW {α : Type} (w : α → Nat) (l : List α) : Nat := (l.map w).sum

end Go.Proofs.YtbfjkjdbdejnmaaGreat.Ab

/- Layouts: compared, marked, found again. No condition. -/
namespace Go.Proofs.YtbfjkjdbdejnmaaGreat.Ab
set_option linter.unusedVariables false
set_option linter.unusedSimpArgs false

/-! ### Layouts -/

def LaV (a : AV) (l : La) : Prop := ∃ b1 z1 b2 z2 b3 z3, a = .agg [.imm b1 z1 4 (l.pls.map plC), .v (.int .i64 l.stack), .imm b2 z2 1 (l.slots.map intC), .v (.int .i64 l.flash), .v (.int .i64 l.ram), .imm b3 z3 1 (l.tgts.map tgsC)]
structure smLa (l : La) : Prop where
  pls : l.pls.length ≤ 1048576
  pl : ∀ p ∈ l.pls, smPl p
  plw : sumW wP l.pls ≤ 3145728
  slots : l.slots.length ≤ 1048576
  tgts : l.tgts.length ≤ 1048576
  tg : ∀ t ∈ l.tgts, smTgs t
  tgw : sumW wT l.tgts ≤ 3145728
end Go.Proofs.YtbfjkjdbdejnmaaGreat.Ab

/- What a law's arguments are: lists of regions. No condition. -/
namespace Go.Proofs.YtbfjkjdbdejnmaaGreat.Ab
set_option maxRecDepth 100000

theorem sh_bool {n : Nat} {c : List AV} (hs : Sh Tryz.prog (n + 1) 4 c) : ∃ a, c = [.v (.bool a)] := by
  simp only [Sh, Tryz.underlying4] at hs
  exact hs
end Go.Proofs.YtbfjkjdbdejnmaaGreat.Ab

/- What a law's arguments are: modules. No condition. -/
namespace Go.Proofs.YtbfjkjdbdejnmaaGreat.Ab
set_option maxRecDepth 100000

theorem list_sh {β : Type} {C : β → List AV} {Q : β → Prop} {S : List AV → Prop} (h : ∀ el, S el → ∃ b, el = C b ∧ Q b) : ∀ (ll : List (List AV)), (∀ el ∈ ll, S el) → ∃ bs : List β, ll = bs.map C ∧ ∀ b ∈ bs, Q b
  | [], _ => ⟨[], rfl, fun _ h => by cases h⟩
  | el :: ll, hl => by
    obtain ⟨bs, rfl, hb⟩ := list_sh h ll fun e he => hl e (List.mem_cons_of_mem _ he)
    obtain ⟨b, rfl, hq⟩ := h el (hl _ List.mem_cons_self)
    refine ⟨b :: bs, rfl, fun x hx => ?_⟩
    rcases List.mem_cons.1 hx with rfl | hx
    · exact hq
    · exact hb x hx
theorem sh_slice {n : Nat} {t e : TypeId} {k : Nat} {β : Type} {C : β → List AV} {Q : β → Prop} {c : List AV} (ht : Tryz.prog.underlying t = some (.slice e)) (hk : Tryz.prog.cellsOf e = k) (h : ∀ el, Sh Tryz.prog n e el → ∃ b, el = C b ∧ Q b)
    (hs : Sh Tryz.prog (n + 1) t c) : ∃ bs : List β, c = [.sl k (bs.map C)] ∧ (∀ b ∈ bs, Q b) ∧ bs.length ≤ maxLen := by
  unfold Sh at hs
  simp only [ht, hk] at hs
  obtain ⟨l1, rfl, t1, _, m1⟩ := hs
  obtain ⟨bs, rfl, hb⟩ := list_sh h l1 t1
  exact ⟨bs, rfl, hb, by simpa using m1⟩
theorem sh_intC {n : Nat} (el : List AV) (hs : Sh Tryz.prog (n + 1) 3 el) : ∃ a, el = intC a ∧ I64 a := by
  simp only [Sh, Tryz.underlying3] at hs
  obtain ⟨w, rfl, hw⟩ := hs
  exact ⟨w, rfl, wf_i64 hw⟩
theorem sh_str {n : Nat} (el : List AV) (hs : Sh Tryz.prog (n + 1) 9 el) : ∃ s, el = strC s ∧ bigStr s := by
  simp only [Sh, Tryz.underlying9] at hs
  obtain ⟨w, rfl, hw⟩ := hs
  exact ⟨w, rfl, hw⟩
theorem sh_intS {n : Nat} (el : List AV) (hs : Sh Tryz.prog (n + 2) 24 el) : ∃ b, el = bankC b ∧ (∀ x ∈ b, I64 x) ∧ bigBank b := by
  obtain ⟨bs, rfl, h1, h2⟩ := sh_slice Tryz.underlying24 (show Tryz.prog.cellsOf 3 = 1 by kernel_rfl) sh_intC hs
  exact ⟨bs, rfl, h1, h2⟩
theorem sh_ex {n : Nat} (el : List AV) (hs : Sh Tryz.prog (n + 2) 207 el) : ∃ e, el = exC e ∧ bigEx e ∧ I64 e.bank ∧ I64 e.pos := by
  unfold Sh at hs
  simp only [Tryz.underlying207] at hs
  obtain ⟨_, _, rfl, s1, _, _, rfl, s2, _, _, rfl, s3, rfl⟩ := hs
  obtain ⟨a, rfl, ha⟩ := sh_str _ s1
  obtain ⟨b, rfl, hb⟩ := sh_intC _ s2
  obtain ⟨c, rfl, hc⟩ := sh_intC _ s3
  exact ⟨⟨a, b, c⟩, rfl, ha, hb, hc⟩
structure OkMo (m : Mo) : Prop where
  big : bigMo m
  text : ∀ x ∈ m.text, I64 x
  banks : ∀ b ∈ m.banks, ∀ x ∈ b, I64 x
  data : BytesOk m.data
  bss : I64 m.bss
  rels : ∀ x ∈ m.rels, I64 x
  exps : ∀ e ∈ m.exps, I64 e.bank ∧ I64 e.pos
theorem sh_mo {n : Nat} (el : List AV) (hs : Sh Tryz.prog (n + 4) 85 el) : ∃ m, el = moC m ∧ OkMo m := by
  unfold Sh at hs
  simp only [Tryz.underlying85] at hs
  obtain ⟨_, _, rfl, s1, _, _, rfl, s2, _, _, rfl, s3, _, _, rfl, s4, _, _, rfl, s5, _, _, rfl, s6, _, _, rfl, s7, _, _, rfl, s8, rfl⟩ := hs
  obtain ⟨a1, rfl, h1⟩ := sh_str _ s1
  obtain ⟨a2, rfl, h2, g2⟩ := sh_intS _ s2
  obtain ⟨a3, rfl, h3, g3⟩ := sh_slice Tryz.underlying81 (show Tryz.prog.cellsOf 24 = 1 by kernel_rfl) sh_intS s3
  obtain ⟨a4, rfl, h4, g4⟩ := sh_byteS Tryz.underlying41 s4
  obtain ⟨a5, rfl, h5⟩ := sh_intC _ s5
  obtain ⟨a6, rfl, h6, g6⟩ := sh_intS _ s6
  obtain ⟨a7, rfl, h7, g7⟩ := sh_slice Tryz.underlying82 (show Tryz.prog.cellsOf 9 = 1 by kernel_rfl) sh_str s7
  obtain ⟨a8, rfl, h8, g8⟩ := sh_slice Tryz.underlying83 (show Tryz.prog.cellsOf 207 = 3 by kernel_rfl) sh_ex s8
  exact ⟨⟨a1, a2, a3, a4, a5, a6, a7, a8⟩, rfl, ⟨h1, g2, g3, fun b hb => (h3 b hb).2, g4, g6, g7, h7, g8, fun e he => (h8 e he).1⟩, h2, fun b hb => (h3 b hb).1, h4, h5, h6, fun e he => (h8 e he).2⟩
end Go.Proofs.YtbfjkjdbdejnmaaGreat.Ab

/- Link: the law. No condition. -/
namespace Go.Proofs.YtbfjkjdbdejnmaaGreat.Ab
set_option linter.unusedVariables false
set_option linter.unusedSimpArgs false
set_option maxRecDepth 100000

def hToCfg : CH := fun args hl K => match args, hl with
  | [.agg [.v (.int .i64 a), .v (.int .i64 b), .v (.int .i64 c), .v (.int .i64 d)]], [] => K (.agg [.v (.int .i64 a), .v (.int .i64 b), .v (.int .i64 c), .v (.int .i64 d)]) []
  | _, _ => False
def cx_s_toConfig : Ctx := mkC []
theorem cx_s_toConfig_ok : CtxOk Tryz.prog cx_s_toConfig := cx0_ok
set_option maxRecDepth 100000 in
set_option pp.maxSteps 1500 in
theorem s_toConfig : HSound Tryz.prog 72 (callM [] false hToCfg) := by
  refine callM_sound cx_s_toConfig_ok mixed Tryz.func72 rfl fun args hl K hp => ?_
  unfold hToCfg at hp
  split at hp
  · exact hp
  · exact hp.elim
theorem sum_bd {α : Type} {w : α → Nat} {n : Nat} : ∀ {l : List α}, (∀ a ∈ l, w a ≤ n) → (l.map w).sum ≤ n * l.length
  | [], _ => by simp
  | a :: l, h => by
    have h1 := h a List.mem_cons_self
    have h2 := sum_bd (l := l) fun b hb => h b (List.mem_cons_of_mem _ hb)
    simp only [List.map_cons, List.sum_cons, List.length_cons, Nat.mul_add]
    omega
theorem plP_bk {ms : List Mo} (hg : ∀ m ∈ ms, GoodM m) (i : Nat) : ∀ p ∈ (plP ms i).1, p.banks.length ≤ 4 := by
  induction i with
  | zero => intro p hp; simp [plP] at hp
  | succ i ih =>
    unfold plP
    split
    · rename_i m h
      intro p hp
      rcases List.mem_append.1 hp with h1 | h1
      · exact ih p h1
      · simp at h1
        subst h1
        have := (hg m (List.mem_of_getElem? h)).bl
        show (bkP m.banks _ m.banks.length).1.length ≤ 4
        rw [bkP_len _ _ (Nat.le_refl _)]
        exact this
    · exact ih
theorem tgs_bd {ms : List Mo} {m : Mo} (g : GoodM m) : (tgsOf ms m.imps).length ≤ 16 := by
  have := List.length_filterMap_le (fun s => (resolveF ms s).map tgOf) m.imps
  have := g.il
  simp only [tgsOf]
  omega
theorem link_sound {ms : List Mo} {c : Cf} (h : linkC ms c = 0) : soundF ms c = 0 := by
  unfold linkC at h
  split at h
  · omega
  · omega
theorem sm_link (ms : List Mo) (c : Cf) : smLa (linkL ms c) := by
  by_cases h : linkC ms c = 0
  · rw [show linkL ms c = laF ms c from if_pos h]
    obtain ⟨⟨ca0, ca1, _⟩, ⟨ln0, ln1⟩, hgm, _⟩ := sound_of (link_sound h)
    have hpl := plP_len (ms := ms) (i := ms.length) (Nat.le_refl _)
    have hbk := plP_bk hgm ms.length
    have htg : ∀ t ∈ (ms.map fun m => tgsOf ms m.imps), t.length ≤ 16 := fun t ht => by
      obtain ⟨m, hm, rfl⟩ := List.mem_map.1 ht
      exact tgs_bd (hgm m hm)
    have b1 := sum_bd (w := wP) (n := 7) (l := (plP ms ms.length).1) fun p hp => by have := hbk p hp; simp only [wP]; omega
    have b2 := sum_bd (w := wT) (n := 48) (l := ms.map fun m => tgsOf ms m.imps) fun t ht => by have := htg t ht; simp only [wT]; omega
    rw [List.length_map] at b2
    refine ⟨?_, ?_, ?_, ?_, ?_, ?_, ?_⟩
    · show (plP ms ms.length).1.length ≤ _
      omega
    · intro p hp
      have := hbk p hp
      simp only [smPl]
      omega
    · show sumW wP (plP ms ms.length).1 ≤ _
      simp only [sumW]
      omega
    · show (slP _ _ _).1.length ≤ _
      rw [slP_len]
      omega
    · show (ms.map _).length ≤ _
      rw [List.length_map]
      omega
    · intro t ht
      have := htg t ht
      simp only [smTgs]
      omega
    · show sumW wT (ms.map _) ≤ _
      simp only [sumW]
      omega
  · rw [show linkL ms c = zeroLa from if_neg h]
    exact ⟨by simp [zeroLa], fun p hp => by simp [zeroLa] at hp, by simp [zeroLa, sumW], by simp [zeroLa], by simp [zeroLa], fun p hp => by simp [zeroLa] at hp, by simp [zeroLa, sumW]⟩
theorem lendT4 (l : List (List AV)) : List.take l.length (List.drop 0 l) = l := by rw [List.drop_zero, List.take_length]
end Go.Proofs.YtbfjkjdbdejnmaaGreat.Ab
