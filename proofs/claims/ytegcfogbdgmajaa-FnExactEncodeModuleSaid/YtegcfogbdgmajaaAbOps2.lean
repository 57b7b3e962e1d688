/- Loads, stores, sums and comparisons, structs and lengths: each is sound. No condition. -/
import Derived.Test.YtegcfogbdgmajaaAbOps
namespace Go.Proofs.Ytegcfogbdgmajaa.Ab
set_option linter.unusedVariables false
set_option linter.unusedSimpArgs false

theorem IR.one {w : World} {Ro S : BS} {t a x} (h : IR w Ro S t a x) : x.oneCell' = true := by cases h <;> first | assumption | rfl
theorem OR.one {w : World} {Ro S : BS} {a x F} (h : OR w Ro S a x F) : x.oneCell' = true := by
  cases h with
  | leaf _ _ _ h => exact h.one
  | sl0 => rfl
  | sl => rfl
theorem CR.one {G w Ro S a x F} (h : CR G w Ro S a x F) : x.oneCell' = true := h.elim (fun h => h.2.2.1) (fun h => h.one)
theorem BlkR.one {G w Ro S fl b cs F} (h : BlkR G w Ro S fl b cs F) {j : Nat} (hj : j < fl.length) : (cs.getD j undef).oneCell' = true := by
  obtain ⟨cv, Fc, h1, h2, _⟩ := h
  have := h1 j hj
  rw [Array.getD_eq_getD_getElem?, this]
  exact (h2 j fl[j] (List.getElem?_eq_getElem hj)).one

def immF (t : Bool) (c : AV) : AV := match c with | .sl s l => .imm t false s l | x => x
theorem mapK_imm (b : Bool) (l : List AV) (k : List AV → Prop) : mapK (immCellK b) l k = k (l.map (immF b)) := by
  induction l generalizing k with
  | nil => rfl
  | cons a l ih =>
    simp only [mapK, List.map_cons]
    cases a <;> simp only [immCellK, immF, ih]
theorem segV_mem {cs : Array Value} {o n : Nat} {u : Value} (h : u ∈ segV cs o n) : ∃ j, j < n ∧ u = cs.getD (o + j) undef := by
  simp only [segV, List.mem_map, List.mem_range] at h
  obtain ⟨j, hj, rfl⟩ := h
  exact ⟨j, hj, rfl⟩

section
variable {P : Program} {C : Ctx} {E : Env} {D : List Deferred × Nat} {o : Oper} {t : TS} {h : HP} {a : Act} {w : World} {k : TS → HP → Prop} {next : Act → World → Prop} {Q : Exit → Act → World → Prop}

/-- What is read, as one value. -/
theorem valK_spec {G : List Gh} {Ro S : BS} {i : TI} {x : List AV} {cs : Array Value} {o : Nat} {K : AV → Prop} (hx : x.length = i.size) (hv : ∀ j y, x[j]? = some y → VR G w Ro S y (cs.getD (o + j) undef))
    (h1 : ∀ j, j < i.size → (cs.getD (o + j) undef).oneCell' = true) (hp : valK i x K) : ∃ y, K y ∧ VR G w Ro S y (if i.agg then .agg (segV cs o i.size).toArray else cs.getD o undef) := by
  unfold valK at hp
  cases hagg : i.agg with
  | true =>
    simp only [hagg] at hp
    refine ⟨.agg x, hp, ?_⟩
    simp only [if_true]
    refine .agg x _ (by rw [segV_length, hx]) (fun v hv => ?_) (fun j y hj => ?_)
    · obtain ⟨j, hj, rfl⟩ := segV_mem hv
      exact h1 j hj
    · have : j < i.size := by have := (List.getElem?_eq_some_iff.1 hj).1; omega
      rw [segV_getD _ _ _ _ this]
      exact hv j y hj
  | false =>
    simp only [hagg] at hp
    cases x with
    | nil => exact hp.elim
    | cons y r =>
      cases r with
      | nil => exact ⟨y, hp, by simpa using hv 0 y rfl⟩
      | cons _ _ => exact hp.elim

theorem load_core {G S F} (hg : Good E G h w S F) {ty : TypeId} {i : TI} (hi : TIok P ty i) {r : Nat} {rt rt' : Root} {g : Gh} {pre cs x post : List AV} {rs : List Root} (hr : h[r]? = some rt) (hgr : G[r]? = some g)
    (hf : Flat rt (pre ++ cs ++ post)) (hcs : cs.length = i.size) (hO : Out h.length cs x rs) (hk : SameK rt rt') (hf' : Flat rt' (pre ++ x ++ post)) {b : Nat} (hb : g.ob = some b) :
    ∃ G' F' v, Good E G' ((h ++ rs).set r rt') w S F' ∧ (∀ (i : Nat) (g : Gh), G[i]? = some g → G'[i]? = some g) ∧ (∀ w2, Chg w w2 (fun _ => False) → (loadVar ty ⟨b, pre.length, none⟩).run P w2 = .ok v w2) ∧
      (∀ K : AV → Prop, valK i x K → ∃ y, K y ∧ VR G' w E.Ro S y v) := by
  have hsz : 0 < i.size := by obtain ⟨_, _, _, _, _, _, _, _, _, _, _, _, _, h⟩ := hi.all; exact h
  have hpos : 0 < (pre ++ cs ++ post).length := by simp; omega
  obtain ⟨b0, ca0, T0, q1, q2, q3, q4⟩ := rootR_blk (hg.root r rt g hr hgr) hf hpos
  obtain ⟨G', F', b1, ca, T, a1, a2, a3, a4, a5, a6⟩ := hg.outSeg hO rfl hr hgr hf hpos hk hf'
  rw [hb] at q1 a3
  cases q1; cases a3
  rw [a4] at q2
  cases q2
  refine ⟨G', F', _, a1, a2, fun w2 hw => run_loadVar hi (by rw [hw.heap _ (Array.getElem?_eq_some_iff.1 a4).1 (fun h => h)]; exact a4) (by simp at a5; omega), fun K hK => ?_⟩
  exact valK_spec (by rw [hO.length, hcs]) a6 (fun j hj => q4.one (by simp; omega)) hK

theorem set_same {α : Type} {l : List α} {i : Nat} {a : α} (h : l[i]? = some a) : l.set i a = l := by
  apply List.ext_getElem?
  intro j
  rw [List.getElem?_set]
  split
  · rename_i hj; subst hj
    split
    · exact h.symm
    · rename_i hlt; rw [List.getElem?_eq_none (by omega)]
  · rfl
theorem out_none : ∀ {cs : List AV} {n : Nat}, cs.any AV.isSl = false → Out n cs cs []
  | [], n, _ => .nil _
  | c :: cs, n, hs => by
    simp only [List.any_cons, Bool.or_eq_false_iff] at hs
    exact .keep _ c cs cs [] hs.1 (out_none hs.2)
theorem loadP_spec {G S F} (hC : CtxOk P C) (hg : Good E G h w S F) {ty : TypeId} {x : AV} {u : Value} {K : AV → HP → Prop} (hv : VR G w E.Ro S x u) (hp : loadP C ty x h K) :
    ∃ y h' G' F' v ad, K y h' ∧ Good E G' h' w S F' ∧ (∀ (i : Nat) (g : Gh), G[i]? = some g → G'[i]? = some g) ∧ u = .pointer (some ad) ∧ (∀ w2, Chg w w2 (fun _ => False) → (loadVar ty ad).run P w2 = .ok v w2) ∧ VR G' w E.Ro S y v := by
  unfold loadP at hp
  obtain ⟨i, hi, hp2⟩ := on_spec hp
  clear hp
  have hp := hp2
  clear hp2
  have hti := hC.tab _ _ hi
  cases x <;> simp only at hp
  case ptr =>
    rename_i r e f kk
    obtain ⟨b, g, p1, p2, p3⟩ := hv.ptr_inv
    obtain ⟨root, hr, hp⟩ := rootK_spec hp
    split at hp
    · rename_i cells _
      obtain ⟨c1, hp⟩ := cutK_spec _ _ _ _ hp
      obtain ⟨x, rs, hp, hO⟩ := outK_spec _ _ _ hp
      obtain ⟨c2, hp⟩ := layK_spec _ _ _ _ hp
      rw [setK_eq] at hp
      have hxl : x.length = i.size := by rw [hO.length]; simp; omega
      have hpre : (cells.take f).length = f := by simp; omega
      obtain ⟨G', F', v, a1, a2, a3, a4⟩ := load_core (pre := cells.take f) (post := cells.drop (f + i.size)) (rt' := .box (lay cells f x)) hg hti hr p1
        (show Flat (.box cells) _ by
          simp only [Flat]
          rw [List.append_assoc, show cells.drop (f + i.size) = (cells.drop f).drop i.size by rw [List.drop_drop], List.take_append_drop, List.take_append_drop]) (by simp; omega) hO trivial (by simp only [Flat, lay, hxl]) p2
      obtain ⟨y, hy, hvy⟩ := a4 _ hp
      rw [hpre] at a3
      exact ⟨y, _, G', F', v, _, hy, a1, a2, p3, by rw [Nat.zero_mul, Nat.zero_add]; exact a3, hvy⟩
    · rename_i s l
      obtain ⟨el, hel, hfs, hp⟩ := hp
      have hse : g.s = s ∧ ∀ e ∈ l, e.length = s := ⟨(hg.root r _ g hr p1).1, (hg.root r _ g hr p1).2.1⟩
      obtain ⟨c1, hp⟩ := cutK_spec _ _ _ _ hp
      obtain ⟨x, rs, hO, c2, hp⟩ : ∃ x rs, Out h.length ((el.drop f).take i.size) x rs ∧ f + x.length ≤ el.length ∧ valK i x fun y => K y ((h ++ rs).set r (.lst s (l.set e (lay el f x)))) := by
        split at hp
        · rename_i hs
          refine ⟨_, [], out_none hs, by simp; omega, ?_⟩
          have h1 : lay el f ((el.drop f).take i.size) = el := by
            unfold lay
            rw [show ((el.drop f).take i.size).length = i.size by simp; omega, List.append_assoc, show el.drop (f + i.size) = (el.drop f).drop i.size by rw [List.drop_drop], List.take_append_drop, List.take_append_drop]
          rw [h1, set_same hel, List.append_nil, set_same hr]
          exact hp
        · obtain ⟨x, rs, hp, hO⟩ := outK_spec _ _ _ hp
          obtain ⟨c2, hp⟩ := layK_spec _ _ _ _ hp
          rw [setK_eq] at hp
          exact ⟨x, rs, hO, c2, hp⟩
      have hells : el.length = s := hse.2 el (List.mem_of_getElem? hel)
      have hxl : x.length = i.size := by rw [hO.length]; simp; omega
      have hlay : (lay el f x).length = s := by rw [lay_length (by omega), hells]
      obtain ⟨f1, f2, f3⟩ := flat_set s l hse.2 e el hel (lay el f x) hlay
      have hset : ∀ q ∈ l.set e (lay el f x), q.length = s := by
        intro q hq
        rcases List.mem_or_eq_of_mem_set hq with hq | rfl
        · exact hse.2 q hq
        · exact hlay
      have hpre : ((l.take e).flatten ++ el.take f).length = e * g.s + f := by
        rw [List.length_append, f3, hse.1]; simp; omega
      have hsplit : el = el.take f ++ ((el.drop f).take i.size) ++ el.drop (f + i.size) := by
        rw [List.append_assoc, show el.drop (f + i.size) = (el.drop f).drop i.size by rw [List.drop_drop], List.take_append_drop, List.take_append_drop]
      have hfl : l.flatten = ((l.take e).flatten ++ el.take f) ++ ((el.drop f).take i.size) ++ (el.drop (f + i.size) ++ (l.drop (e + 1)).flatten) := by
        rw [f1, show ((l.take e).flatten ++ el.take f) ++ ((el.drop f).take i.size) ++ (el.drop (f + i.size) ++ (l.drop (e + 1)).flatten) = (l.take e).flatten ++ (el.take f ++ ((el.drop f).take i.size) ++ el.drop (f + i.size)) ++ (l.drop (e + 1)).flatten by simp [List.append_assoc], ← hsplit]
      obtain ⟨G', F', v, a1, a2, a3, a4⟩ := load_core (pre := (l.take e).flatten ++ el.take f) (cs := (el.drop f).take i.size) (post := el.drop (f + i.size) ++ (l.drop (e + 1)).flatten) (rt' := .lst s (l.set e (lay el f x))) hg hti hr p1
        ⟨hfl.symm, hse.2⟩ (by simp; omega) hO rfl ⟨by rw [f2]; simp [lay, hxl, List.append_assoc], hset⟩ p2
      obtain ⟨y, hy, hvy⟩ := a4 _ hp
      rw [hpre] at a3
      exact ⟨y, _, G', F', v, _, hy, a1, a2, p3, a3, hvy⟩
    · exact hp.elim
  case aptr =>
    rename_i r f j
    obtain ⟨b, g, p1, p2, p3⟩ := hv.aptr_inv
    split at hp
    · exact hp.elim
    rename_i hagg
    obtain ⟨root, hr, hp⟩ := rootK_spec hp
    split at hp
    · rename_i cells
      obtain ⟨x, hx, hsl, hp⟩ := hp
      split at hp
      · rename_i hone
        have hone : i.size = 1 := Nat.eq_of_beq_eq_true hone
        obtain ⟨b', cs, T, q1, q2, q3, cv, Fc, q4, q5, _⟩ := hg.root r _ g hr p1
        rw [p2] at q1
        cases q1
        have hjl := (List.getElem?_eq_some_iff.1 hx).1
        have hval : cs.getD (j + f) undef = cv (j + f) := by rw [Array.getD_eq_getD_getElem?, q4 _ hjl]; rfl
        refine ⟨x, h, G, F, cs.getD (j + f) undef, _, hp, hg, fun _ _ h => h, p3, fun w2 hw => ?_, ?_⟩
        · have := run_loadVar (P := P) hti (w := w2) (b := b) (o := j + f) (cs := cs) (T := T) (fz := (0, 0)) (by rw [hw.heap _ (Array.getElem?_eq_some_iff.1 q2).1 (fun h => h)]; exact q2) (by omega)
          simpa [hagg] using this
        · rw [hval]
          rcases q5 _ _ hx with ⟨_, hv, _⟩ | hor
          · exact hv
          · generalize cv (j + f) = v at hor
            generalize Fc (j + f) = Fp at hor
            cases hor with
            | leaf a x p1 p2 => exact .ir _ _ p1 p2.weak
            | sl0 s a => simp [AV.isSl] at hsl
            | sl => simp [AV.isSl] at hsl
      · exact hp.elim
    · exact hp.elim
  case iptr =>
    rename_i b l
    obtain ⟨bb, off, cs, T, fz, cv, p1, p2, p3, p4, p5⟩ := hv.iptr_inv
    obtain ⟨c1, hp⟩ := cutK_spec _ _ _ _ hp
    rw [mapK_imm] at hp
    simp only [Nat.zero_add] at c1
    have hval : ∀ j, j < l.length → cs.getD (off + j) undef = cv j := fun j hj => by rw [Array.getD_eq_getD_getElem?, p4 j hj]; rfl
    have hsz : 0 < i.size := by obtain ⟨_, _, _, _, _, _, _, _, _, _, _, _, _, h⟩ := hti.all; exact h
    have hcs : off + i.size ≤ cs.size := by
      have := (Array.getElem?_eq_some_iff.1 (p4 (i.size - 1) (by omega))).1
      omega
    obtain ⟨y, hy, hvy⟩ := valK_spec (G := G) (w := w) (Ro := E.Ro) (S := S) (cs := cs) (o := off) (i := i) (by simp; omega) (fun j y hj => by
      simp only [List.drop_zero, List.getElem?_map, List.getElem?_take] at hj
      by_cases hji : j < i.size
      · rw [if_pos hji] at hj
        cases hlj : l[j]? with
        | none => simp [hlj] at hj
        | some q =>
          simp [hlj] at hj
          subst hj
          rw [hval j (by omega)]
          have hir := p5 j q hlj
          cases q with
          | sl s l' =>
            simp only [immF]
            generalize cv j = vj at hir
            cases hir with
            | sl0 _ _ a c => exact .ir _ _ rfl (.imm _ _ _ _ _ a 0 c (by simp) (.sl0 _ _ a c) (by simp))
            | sl _ _ _ b' off' c cs' T' fz' cv' q1 q2 q3 q0 q4 q5 => exact .ir _ _ rfl (.imm _ _ _ _ _ _ _ c (by simp) (.sl _ _ _ b' off' c cs' T' fz' cv' q1 q2 q3 q0 q4 q5) (by simp))
          | _ => exact .ir _ _ rfl hir.weak
      · rw [if_neg hji] at hj; simp at hj) (fun j hj => by
        rw [hval j (by omega)]
        exact (p5 j l[j] (List.getElem?_eq_getElem (by omega))).one) hp
    exact ⟨y, h, G, F, _, _, hy, hg, fun _ _ h => h, p1, fun w2 hw => run_loadVar hti (by rw [hw.heap _ (Array.getElem?_eq_some_iff.1 p3).1 (fun h => h)]; exact p3) hcs, hvy⟩
  all_goals exact hp.elim

theorem q_load {ty : TypeId} {p : Operand} (hC : CtxOk P C) (ho : o.op = .load ty p) : OpQ P C o := by
  intro E D t h a w k hp ⟨G, S, F, hg, ht, hd⟩
  unfold opP at hp
  simp only [ho, evK_eq] at hp
  obtain ⟨y, h', G', F', v, ad, hy, a1, a2, p3, a3, hvy⟩ := loadP_spec hC hg (evF_spec ht p) hp
  exact q_val (v := v) (fun w2 hw => by simp [execOp, ho, p3, Instr.loadAt, Instr.sureAddr, a3 w2 hw]) a1 (ht.ext (hg.ext_none (Chg.refl w _) a2)) hd hvy hy

theorem q_assign {x : Operand} (hC : CtxOk P C) (ho : o.op = .assign x) : OpQ P C o := by
  intro E D t h a w k hp ⟨G, S, F, hg, ht, hd⟩
  unfold opP at hp
  simp only [ho, evK_eq] at hp
  have hv := evF_spec ht x
  split at hp
  · rename_i hb
    rw [hb] at hv
    rcases hp with hp | hp
    · exact q_val (v := a.eval x) (fun w2 _ => by simp [execOp, ho]) hg ht hd hv hp
    have hv := hv.nils_inv
    obtain ⟨i, hi, hp⟩ := on_spec hp
    split at hp
    · rename_i e es hk
      have hp := newK_spec hp
      have hg2 := hg.addRoot ⟨none, es, 0⟩ (.lst es []) (fun _ => False) ⟨rfl, by simp, .inl ⟨rfl, rfl, fun _ h => h⟩⟩ (fun _ _ _ h => h) (fun _ h => h.elim)
      refine q_val (v := .slice none 0 0) (fun w2 _ => by simp [execOp, ho, hv]) hg2 (ht.ext (hg.ext_none (Chg.refl w _) (pre_append G _))) hd
        (.slc _ 0 0 true ⟨none, es, 0⟩ none 0 (by rw [List.getElem?_append_right (by rw [hg.len]; exact Nat.le_refl _)]; simp [hg.len]) (Nat.le_refl _) (fun _ => rfl) (.inl rfl)) hp
    · exact hp.elim
  · exact q_val (v := a.eval x) (fun w2 _ => by simp [execOp, ho]) hg ht hd hv hp
theorem u_assign {x : Operand} (hC : CtxOk P C) (ho : o.op = .assign x) : OpU P C o := by
  intro E D t h a w k hp ⟨G, S, F, hg, ht, hd⟩
  unfold opP at hp
  simp only [ho, evK_eq] at hp
  have hv := evF_spec ht x
  split at hp
  · rename_i hb
    rw [hb] at hv
    rcases hp with hp | hp
    · exact u_val (v := a.eval x) (fun w2 => by simp [execOp, ho]) hg ht hd hv hp
    have hv := hv.nils_inv
    obtain ⟨i, hi, hp⟩ := on_spec hp
    split at hp
    · rename_i e es hk
      have hp := newK_spec hp
      have hg2 := hg.addRoot ⟨none, es, 0⟩ (.lst es []) (fun _ => False) ⟨rfl, by simp, .inl ⟨rfl, rfl, fun _ h => h⟩⟩ (fun _ _ _ h => h) (fun _ h => h.elim)
      refine u_val (v := .slice none 0 0) (fun w2 => by simp [execOp, ho, hv]) hg2 (ht.ext (hg.ext_none (Chg.refl w _) (pre_append G _))) hd
        (.slc _ 0 0 true ⟨none, es, 0⟩ none 0 (by rw [List.getElem?_append_right (by rw [hg.len]; exact Nat.le_refl _)]; simp [hg.len]) (Nat.le_refl _) (fun _ => rfl) (.inl rfl)) hp
    · exact hp.elim
  · exact u_val (v := a.eval x) (fun w2 => by simp [execOp, ho]) hg ht hd hv hp

theorem vr_int (G : List Gh) (w : World) (Ro S : BS) (k : IntKind) (n : Int) : VR G w Ro S (.v (.int k n)) (.int k n) := .ir _ _ rfl (.v _ _ rfl)
theorem vr_bool (G : List Gh) (w : World) (Ro S : BS) (b : Bool) : VR G w Ro S (.v (.bool b)) (.bool b) := .ir _ _ rfl (.v _ _ rfl)

theorem intOp_spec {op : BinOp} {q : IntKind} {x y : Int} {K : AV → Prop} (hp : intOp op q x y K) (ty : TypeId) : ∃ v, K (.v v) ∧ v.oneCell' = true ∧ ∀ w : World, (binOp op ty (.int q x) (.int q y)).run P w = .ok v w := by
  cases op <;> simp only [intOp] at hp
  case add => exact ⟨_, hp, rfl, fun w => by simp [binOp, Op.intArith]⟩
  case sub => exact ⟨_, hp, rfl, fun w => by simp [binOp, Op.intArith]⟩
  case mul => exact ⟨_, hp, rfl, fun w => by simp [binOp, Op.intArith]⟩
  case quo => exact ⟨_, hp.2, rfl, fun w => by simp [binOp, Op.intDiv, hp.1]⟩
  case rem => exact ⟨_, hp.2, rfl, fun w => by simp [binOp, Op.intDiv, hp.1]⟩
  case and => exact ⟨_, hp, rfl, fun w => by simp [binOp, Op.intBits]⟩
  case or => exact ⟨_, hp, rfl, fun w => by simp [binOp, Op.intBits]⟩
  case xor => exact ⟨_, hp, rfl, fun w => by simp [binOp, Op.intBits]⟩
  case andNot => exact ⟨_, hp, rfl, fun w => by simp [binOp, Op.intBits]⟩
  case eql => exact ⟨_, hp, rfl, fun w => by simp [binOp, Op.intCmp]⟩
  case neq => exact ⟨_, hp, rfl, fun w => by simp [binOp, Op.intCmp]⟩
  case lss => exact ⟨_, hp, rfl, fun w => by simp [binOp, Op.intCmp]⟩
  case leq => exact ⟨_, hp, rfl, fun w => by simp [binOp, Op.intCmp]⟩
  case gtr => exact ⟨_, hp, rfl, fun w => by simp [binOp, Op.intCmp]⟩
  case geq => exact ⟨_, hp, rfl, fun w => by simp [binOp, Op.intCmp]⟩
end

end Go.Proofs.Ytegcfogbdgmajaa.Ab
