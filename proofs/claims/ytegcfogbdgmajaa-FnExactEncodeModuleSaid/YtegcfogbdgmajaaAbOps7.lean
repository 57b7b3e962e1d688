/- Conversions, elements of strings, function values, literals of slices, maps, clear, interfaces, panics: each is sound. No condition. -/
import Derived.Test.YtegcfogbdgmajaaAbOps6
namespace Go.Proofs.Ytegcfogbdgmajaa.Ab
set_option linter.unusedVariables false
set_option linter.unusedSimpArgs false

section
variable {P : Program} {C : Ctx} {E : Env} {D : List Deferred × Nat} {o : Oper} {t : TS} {h : HP} {a : Act} {w : World} {k : TS → HP → Prop} {next : Act → World → Prop} {Q : Exit → Act → World → Prop}

theorem q_index {ty : TypeId} {x ix : Operand} (hC : CtxOk P C) (ho : o.op = .index ty x ix) : OpQ P C o := by
  intro E D t h a w k hp ⟨G, S, F, hg, ht, hd⟩
  unfold opP at hp
  simp only [ho, evK_eq] at hp
  obtain ⟨i, hi, hpi⟩ := on_spec hp
  clear hp
  obtain ⟨info, dd, z, h1, h2, h3, h4, h5, h6, _⟩ := hC.tab _ _ hi
  have hv := evF_spec ht x
  have hz := evF_spec ht ix
  split at hpi
  · rename_i s kd q hk hb hq
    rw [hb] at hv
    rw [hq] at hz
    have hv := hv.v_inv.1
    have hz := hz.v_inv.1
    rw [hk] at h6
    cases dd <;> simp only [KindOk] at h6
    obtain ⟨j, rfl, b, hb, hp⟩ := hpi
    have hjl : j < s.size := (Array.getElem?_eq_some_iff.1 hb).1
    refine q_val (v := .int .u8 b.toNat) (fun w2 _ => ?_) hg ht hd (vr_int _ _ _ _ _ _) hp
    have hs : s[j]? = some b := by rw [ByteArray.getElem?_lt' s j hjl, ← hb]; show some s.data[j] = _; rw [Array.getElem?_eq_getElem hjl]
    simp [execOp, ho, hv, hz, Instr.index, asIntOf, run_underlying h4, hs]
  · exact hpi.elim

theorem q_s2ap {ty : TypeId} {x : Operand} (hC : CtxOk P C) (ho : o.op = .sliceToArrayPointer ty x) : OpQ P C o := by
  intro E D t h a w k hp ⟨G, S, F, hg, ht, hd⟩
  unfold opP at hp
  simp only [ho, evK_eq] at hp
  obtain ⟨i, hi, hpi⟩ := on_spec hp
  clear hp
  obtain ⟨info, dd, z, h1, h2, h3, h4, h5, h6, _⟩ := hC.tab _ _ hi
  have hv := evF_spec ht x
  split at hpi
  · rename_i n b zz l hk hb
    rw [hb] at hv
    rw [hk] at h6
    cases dd <;> simp only [KindOk] at h6
    obtain ⟨hlen, ei, q1, q2⟩ := h6
    rw [hlen] at h4
    obtain ⟨cs, hcs, hcl, hnl, hn0, hp⟩ := hpi
    obtain ⟨ad, c, p1, p2, p3⟩ := hv.imm_inv
    generalize hn : l.length = m at p1 p3
    cases p3 with
    | sl0 => simp at hnl; omega
    | sl _ _ _ bb off _ ca T fz cv u1 u2 u3 u0 u4 u5 =>
      have hfl := flat_length _ _ u3
      have hft : cs = l.flatten.take n := by rw [← hcs, flat_take 1 _ _ u3, Nat.mul_one]
      refine q_val (v := .pointer (some ⟨bb, off, none⟩)) (fun w2 _ => ?_) hg ht hd (.ir _ _ rfl (.iptr _ _ _ bb off ca T fz cv (by simp) u1 u2 (fun j hj => u4 j (by omega)) (fun j y hj => ?_))) hp
      · have : ¬ l.length < n := by omega
        simp [execOp, ho, p1, Instr.arrayAt, run_underlying h4, this]
      · rw [hft, List.getElem?_take] at hj
        split at hj
        · exact u5 j y hj
        · cases hj
  · exact hpi.elim

theorem q_makeFunc {f : Fn} {fs cs : Array Operand} (ho : o.op = .makeFunc f fs cs) : OpQ P C o := by
  intro E D t h a w k hp ⟨G, S, F, hg, ht, hd⟩
  unfold opP at hp
  simp only [ho, mapK_ev] at hp
  split at hp
  · rename_i f' hfs
    refine q_val (v := .func (.func f') #[] (cs.toList.map a.eval).toArray) (fun w2 _ => ?_) hg ht hd (.fn f' _ (cs.toList.map a.eval) (by simp) (argsRel ht _)) hp
    have : fs = #[] := by apply Array.ext'; simpa using hfs
    subst this
    simp [execOp, ho, Instr.makeFunc]
    apply Array.ext'
    simp
  · exact hp.elim

theorem q_minmax {c : Call} (ho : o.op = .call c) (hcal : c.callee = .builtin .min ∨ c.callee = .builtin .max) : OpQ P C o := by
  intro E D t h a w k hp ⟨G, S, F, hg, ht, hd⟩
  unfold opP at hp
  simp only [ho, mapK_ev] at hp
  have two : ∀ {x y : AV}, c.args.toList.map (evF t) = [x, y] → ∃ pa pb, c.args = #[pa, pb] ∧ evF t pa = x ∧ evF t pb = y := by
    intro x y hl
    have : (c.args.toList.map (evF t)).length = 2 := by rw [hl]; rfl
    simp at this
    rcases hq : c.args.toList with _ | ⟨pa, _ | ⟨pb, _ | ⟨_, _⟩⟩⟩ <;> rw [← Array.length_toList] at this <;> rw [hq] at this <;> simp at this
    rw [hq] at hl
    simp only [List.map_cons, List.map_nil] at hl
    exact ⟨pa, pb, by apply Array.ext'; simp [hq], (List.cons.inj hl).1, (List.cons.inj (List.cons.inj hl).2).1⟩
  rcases hcal with hcal | hcal <;> simp only [hcal] at hp <;> split at hp <;> first | exact hp.elim | skip
  all_goals
    rename_i j x j' y hl
    split at hp
    · rename_i hjj
      subst hjj
      obtain ⟨pa, pb, h1, h2, h3⟩ := two hl
      have hva := evF_spec ht pa
      have hvb := evF_spec ht pb
      rw [h2] at hva
      rw [h3] at hvb
      have hva := hva.v_inv.1
      have hvb := hvb.v_inv.1
      refine q_val (v := .int j _) (fun w2 _ => ?_) hg ht hd (vr_int _ _ _ _ _ _) hp
      simp [execOp, ho, resolve, hcal, invoke, builtin, h1, hva, hvb, Builtin.min_, Builtin.max_, Builtin.min2, Builtin.max2]
    · exact hp.elim

theorem byteC_flat : ∀ bs : List Int, (bs.map byteC).flatten = bs.map fun n => AV.v (.int .u8 n)
  | [] => rfl
  | b :: bs => by rw [List.map_cons, List.flatten_cons, byteC_flat bs]; rfl
theorem bytes_push (bs : List Int) : bs.foldl (fun r n => r.push (UInt8.ofNat n.toNat)) ByteArray.empty = bytesS bs := by
  rw [foldl_push_bytes]
  simp [bytesS, ByteArray.empty, ByteArray.emptyWithCapacity]
  rfl

theorem q_convert {s d : TypeId} {x : Operand} (hC : CtxOk P C) (ho : o.op = .convert s d x) (hq : ∀ i e es, C.tab d = some i → i.kind ≠ .slice e es) : OpQ P C o := by
  intro E D t h a w k hp ⟨G, S, F, hg, ht, hd⟩
  unfold opP at hp
  simp only [ho, evK_eq] at hp
  obtain ⟨is, his, hps⟩ := on_spec hp
  clear hp
  obtain ⟨i, hi, hp⟩ := on_spec hps
  clear hps
  obtain ⟨sinfo, ds, sz, g1, g2, g3, g4, g5, g6, _⟩ := hC.tab _ _ his
  obtain ⟨info, dd, z, h1, h2, h3, h4, h5, h6, _⟩ := hC.tab _ _ hi
  have hv := evF_spec ht x
  split at hp
  · rename_i n q y hk hb
    rw [hb] at hv
    have hv := hv.v_inv.1
    rw [hk] at h6
    cases dd <;> simp only [KindOk] at h6
    subst h6
    refine q_val (v := .int _ (IntKind.wrap _ y)) (fun w2 _ => ?_) hg ht hd (.ir _ _ rfl (.v _ _ rfl)) hp
    simp [execOp, ho, hv, convert, run_underlying g4, run_underlying h4, Conv.intToInt]
  · rename_i s' hk hb
    rw [hb] at hv
    have hv := hv.v_inv.1
    rw [hk] at h6
    cases dd <;> simp only [KindOk] at h6
    refine q_val (v := .string s') (fun w2 _ => ?_) hg ht hd (.ir _ _ rfl (.v _ _ rfl)) hp
    simp [execOp, ho, hv, convert, run_underlying g4, run_underlying h4]
  · rename_i hk _
    rw [hk] at h6
    cases dd <;> simp only [KindOk] at h6
    split at hp
    · rename_i e hks
      rw [hks] at g6
      cases ds <;> simp only [KindOk] at g6
      rename_i elem
      obtain ⟨he, ei, q1, q2⟩ := g6
      subst he
      obtain ⟨ei', hei, hpe⟩ := on_spec hp
      clear hp
      obtain ⟨einfo, de, ez, e1, e2, e3, e4, e5, e6, _⟩ := hC.tab _ _ hei
      have fin : ∀ (ad : Option Addr) (n c : Nat), a.eval x = .slice ad n c → P.underlying elem = some (.int .u8) → srcK 1 (evF t x) h (fun L => ∃ bs : List Int, L = bs.map byteC ∧ putK t o.dst (.v (.string (bytesS bs))) fun t => k t h) → QRes P E D o a w k := by
        intro ad n c hva hu hp
        obtain ⟨L, vs, ⟨bs, rfl, hp⟩, src⟩ := srcK_spec (P := P) hg (by omega) hv hp
        rw [hva] at src
        have hfl := byteC_flat bs
        have hvs : vs = bs.map (Value.int .u8) := by
          obtain ⟨Fc, c1, c2, _⟩ := src.cells
          rw [hfl, List.length_map] at c1
          apply List.ext_getElem?
          intro j
          by_cases hj : j < bs.length
          · have := c2 j (.v (.int .u8 bs[j])) (by rw [hfl]; simp [hj])
            have := (this.vr rfl).1.v_inv.1
            rw [List.getD_eq_getElem?_getD, List.getElem?_eq_getElem (by omega)] at this
            rw [List.getElem?_eq_getElem (by omega)]
            simpa [hj] using this
          · rw [List.getElem?_eq_none (by omega), List.getElem?_eq_none (by simpa using hj)]
        refine q_val (v := .string (bytesS bs)) (fun w2 hw => ?_) hg ht hd (.ir _ _ rfl (.v _ _ rfl)) hp
        have hget := src.get w2 hw bs.length (by simp)
        have hnum := src.num w2 hw
        simp only [Builtin.lenOf, List.length_map, Sem.run_pure, Result.ok.injEq, and_true] at hnum
        subst hnum
        rw [List.take_of_length_le (by rw [hvs]; simp), hvs] at hget
        cases ad with
        | none =>
          simp [Builtin.firstCells] at hget
          have : bs = [] := by
            cases bs with
            | nil => rfl
            | cons _ _ => simp at hget
          subst this
          have := run_convert_bytes_string (P := P) w2 s d elem none 0 c g4 hu h4
          simp [execOp, ho, hva, this, Conv.bytesToString]
          rfl
        | some ad =>
          simp only [Builtin.firstCells, Nat.mul_one] at hget
          have := run_convert_bytes_string (P := P) w2 s d elem (some ad) bs.length c g4 hu h4
          rw [run_bytesToString w2 ad _ c bs hget, bytes_push] at this
          simp [execOp, ho, hva, this]
      split at hpe
      · exact hpe.elim
      · rename_i hke hne
        rw [hke] at e6
        cases de <;> simp only [KindOk] at e6
        subst e6
        have hx := hv
        have hall : ∃ ad n c, a.eval x = .slice ad n c := by
          generalize evF t x = y at hv hpe hne
          unfold srcK at hpe
          split at hpe
          · exact ⟨_, _, _, hv.nils_inv⟩
          · obtain ⟨ad, c, p, _⟩ := hv.imm_inv; exact ⟨_, _, _, p⟩
          · obtain ⟨g, ad, c, _, p, _⟩ := hv.slc_inv; exact ⟨_, _, _, p⟩
          · obtain ⟨b, g, c, _, _, _, p⟩ := hv.bsl_inv; exact ⟨_, _, _, p⟩
          · exact (hne _ rfl).elim
          · exact hpe.elim
        obtain ⟨ad, n, c, hva⟩ := hall
        exact fin ad n c hva e4 hpe
      · exact hpe.elim
    · exact hp.elim
  · rename_i e s' hk hb
    exact absurd hk (hq _ _ _ hi)
  · exact hp.elim

/-- A new block that will not change any more. -/
theorem new_imm {G S F} (hg : Good E G h w S F) {w' : World} (c : Chg w w' (fun _ => False)) {b : Nat} (hb1 : w.heap.size ≤ b) (hb2 : b < w'.heap.size) : Good E G h w' (fun k => S k ∨ k = b) F ∧ Ext E G w S G w' (fun k => S k ∨ k = b) := by
  have g1 := hg.chg c
  have g2 := g1.addS (fun k => k = b) (fun k hk => by subst hk; exact ⟨hb2, .inr (Nat.le_trans hg.size hb1)⟩) (fun r k hr hk => by subst hk; have := (hg.own r _ hr).1; omega)
  exact ⟨g2, fun _ _ h => h, fun _ h => .inl h, fun k hk => c.heap k (hg.sb k hk) (fun h => h), fun k hk => c.heap k (hg.ro_lt hk) (fun h => h)⟩

theorem s_convertS {s d : TypeId} {x : Operand} {e : TypeId} {es : Nat} {i : TI} (hC : CtxOk P C) (ho : o.op = .convert s d x) (hdi : C.tab d = some i) (hki : i.kind = .slice e es) : OpS P C o := by
  intro E D t h a w k next Q hp ⟨G, S, F, hg, ht, hd⟩ hpan hc
  unfold opP at hp
  simp only [ho, evK_eq] at hp
  obtain ⟨is, his, hps⟩ := on_spec hp
  clear hp
  obtain ⟨i2, hi2, hp⟩ := on_spec hps
  clear hps
  rw [hdi] at hi2
  cases hi2
  obtain ⟨sinfo, ds, sz, g1, g2, g3, g4, g5, g6, _⟩ := hC.tab _ _ his
  obtain ⟨info, dd, z, h1, h2, h3, h4, h5, h6, _⟩ := hC.tab _ _ hdi
  have hv := evF_spec ht x
  split at hp
  · rename_i hk _; rw [hki] at hk; cases hk
  · rename_i hk _; rw [hki] at hk; cases hk
  · rename_i hk _; rw [hki] at hk; cases hk
  · rename_i e' s' hk hb
    rw [hb] at hv
    have hv := hv.v_inv.1
    rw [hk] at h6
    cases dd <;> simp only [KindOk] at h6
    rename_i elem
    obtain ⟨he, ei, q1, q2⟩ := h6
    subst he
    obtain ⟨ei', hei, hpe⟩ := on_spec hp
    clear hp
    obtain ⟨einfo, de, ez, e1, e2, e3, e4, e5, e6, _⟩ := hC.tab _ _ hei
    split at hpe
    · rename_i hke
      rw [hke] at e6
      cases de <;> simp only [KindOk] at e6
      subst e6
      have hrun := Lib.run_convert_string_bytes (P := P) w s d elem s' g4 h4 e4
      have hchg : Chg w (Lib.bytesWorld w elem s') (fun _ => False) := ⟨rfl, rfl, rfl, by rw [Lib.bytesWorld_size]; omega, fun k hk _ => Lib.bytesWorld_at_old w elem s' k hk⟩
      obtain ⟨a1, a2⟩ := new_imm hg hchg (b := w.heap.size) (Nat.le_refl _) (by rw [Lib.bytesWorld_size]; omega)
      have hflat : (strB s').flatten = s'.data.toList.map fun b => AV.v (.int .u8 b.toNat) := by
        unfold strB byteC
        generalize s'.data.toList = q
        induction q with
        | nil => rfl
        | cons a q ih => simp only [List.map_cons, List.flatten_cons, ih]; rfl
      have hslen : (strB s').length = s'.size := by rw [strB, List.length_map, Array.length_toList]; rfl
      refine wp_val (v := .slice (some ⟨w.heap.size, 0, none⟩) s'.size (grownCap w s'.size 0 elem)) (w' := Lib.bytesWorld w elem s') ?_ (rel_put a1 (ht.ext a2) hd (.ir _ _ rfl (.imm _ true _ _ _ _ _ _ (by simp) ?_ (by simp))) hpe hc)
      · simp [execOp, ho, hv, hrun]
      · rw [← hslen]
        refine .sl _ 1 _ _ 0 _ _ elem _ (fun j => .int .u8 ((s'.data.toList.getD j 0).toNat)) (.inr rfl) (Lib.bytesWorld_at_new w elem s') (fun e he => by obtain ⟨b, _, rfl⟩ := List.mem_map.1 he; rfl) (by rw [hslen]; exact grownCap_ge w _ _ _) (fun j hj => ?_) (fun j y hj => ?_)
        · rw [hflat, List.length_map] at hj
          have hjs : j < s'.size := by rw [Array.length_toList] at hj; exact hj
          have hjd : j < s'.data.size := hjs
          rw [Nat.zero_add, Lib.bytesCells, Array.getElem?_append, if_pos (by simpa using hjd), Array.getElem?_map, Array.getElem?_eq_getElem hjd]
          simp [List.getD_eq_getElem?_getD]
          rw [Array.getElem?_eq_getElem hjd]; rfl
        · rw [hflat, List.getElem?_map] at hj
          cases hq : s'.data.toList[j]? with
          | none => simp [hq] at hj
          | some b =>
            simp [hq] at hj
            subst hj
            rw [List.getD_eq_getElem?_getD, hq]
            exact .v _ _ rfl
    · exact hpe.elim
  · exact hp.elim

theorem s_makeInterface {ty : TypeId} {x : Operand} (hC : CtxOk P C) (ho : o.op = .makeInterface ty x) : OpS P C o := by
  intro E D t h a w k next Q hp ⟨G, S, F, hg, ht, hd⟩ hpan hc
  unfold opP at hp
  simp only [ho, evK_eq] at hp
  obtain ⟨i, hi, hpi⟩ := on_spec hp
  clear hp
  obtain ⟨info, dd, z, h1, h2, h3, h4, h5, h6, _⟩ := hC.tab _ _ hi
  have hv := evF_spec ht x
  have fin : ∀ u, evF t x = .v u → (∀ ms, dd ≠ .interface ms) → (putK t o.dst (.v (.iface ty u)) fun t => k t h) → o.wp P a w next Q := by
    intro u hb hdd hk
    rw [hb] at hv
    have hv := hv.v_inv.1
    refine wp_val (v := .iface ty u) (w' := w) ?_ (rel_put hg ht hd (.ir _ _ rfl (.v _ _ rfl)) hk hc)
    cases dd <;> first | exact absurd rfl (hdd _) | simp [execOp, ho, hv, Instr.makeInterface, run_underlying h4]
  split at hpi
  · rename_i hk hb; rw [hk] at h6; exact fin _ hb (fun ms he => by subst he; exact h6) hpi
  · rename_i hk hb; rw [hk] at h6; exact fin _ hb (fun ms he => by subst he; exact h6) hpi
  · exact hpi.elim

theorem s_panic {x : Operand} (ho : o.op = .panic x) : OpS P C o := by
  intro E D t h a w k next Q hp ⟨G, S, F, hg, ht, hd⟩ hpan hc
  unfold opP at hp
  simp only [ho, evK_eq] at hp
  have hv := evF_spec ht x
  split at hp
  · rename_i ty u hb
    rw [hb] at hv
    have hv := hv.v_inv.1
    have hr : (execOp a.eval o).run P w = .halt (.panic (.iface ty u)) w := by simp [execOp, ho, hv, Instr.panic]
    unfold Oper.wp
    rw [hr]
    exact hpan _ t h a w hp ⟨G, S, F, hg, ht, hd⟩
  · exact hp.elim

/-! ### Literals of slices -/

theorem fill_elems {es : Nat} (cells : Array Value) : ∀ (n : Nat) (L : List (List Value)) (pv : List (Nat × Value)) (j : Nat) (c : Array Value), L.length = n → pv.length = n → (∀ (i : Nat) l, L[i]? = some l → l.length = es ∧ ∃ v, pv[i]? = some (j + i, v) ∧ v.cells = l.toArray) →
    (j + n) * es ≤ c.size → ∃ c', Instr.fill (fun i => some (i * es, es)) c pv = some c' ∧ c'.size = c.size ∧ ∀ q, c'[q]? = if j * es ≤ q ∧ q < (j + n) * es then L.flatten[q - j * es]? else c[q]?
  | 0, L, pv, j, c, h1, h2, h3, h4 => by
    have : pv = [] := List.length_eq_zero_iff.1 h2
    subst this
    exact ⟨c, rfl, rfl, fun q => by rw [if_neg (by rw [Nat.add_zero]; omega)]⟩
  | n + 1, [], pv, j, c, h1, _, _, _ => by simp at h1
  | n + 1, l :: L, [], j, c, _, h2, _, _ => by simp at h2
  | n + 1, l :: L, p :: pv, j, c, h1, h2, h3, h4 => by
    obtain ⟨hl, v, hv0, hv⟩ := h3 0 l rfl
    simp at hv0
    subst hv0
    have hle : j * es + es ≤ c.size := by
      have : (j + 1) * es ≤ (j + (n + 1)) * es := Nat.mul_le_mul_right _ (by omega)
      rw [Nat.succ_mul] at this; omega
    obtain ⟨g1, g2⟩ := foldl_get (j * es) l 0 c (by omega)
    obtain ⟨c1, hc1⟩ : ∃ c1, c1 = (l.zipIdx 0).foldl (fun cs (p_1 : Value × Nat) => cs.setIfInBounds (j * es + p_1.2) p_1.1) c := ⟨_, rfl⟩
    rw [← hc1] at g1 g2
    obtain ⟨c', k1, k2, k3⟩ := fill_elems cells n L pv (j + 1) c1 (by simpa using h1) (by simpa using h2) (fun i l' hi => by
      obtain ⟨q1, v', q2, q3⟩ := h3 (i + 1) l' (by simpa using hi)
      exact ⟨q1, v', by simpa [show j + (i + 1) = j + 1 + i by omega] using q2, q3⟩) (by rw [g1, show j + 1 + n = j + (n + 1) by omega]; exact h4)
    refine ⟨c', ?_, k2.trans g1, fun q => ?_⟩
    · have hsz : v.cells.size = l.length := by rw [hv]; simp
      have hfold : v.cells.zipIdx.foldl (fun cs (x : Value × Nat) => cs.setIfInBounds (j * es + x.2) x.1) c = c1 := by
        rw [hc1, hv, ← Array.foldl_toList, Array.toList_zipIdx]
      simp only [Instr.fill]
      rw [if_neg (by rw [hsz, hl]; simp; omega)]
      exact (congrArg (fun z => Instr.fill (fun i => some (i * es, es)) z pv) hfold).trans k1
    · rw [k3, g2]
      simp only [List.flatten_cons, Nat.add_zero]
      have e1 : (j + 1) * es = j * es + es := by rw [Nat.succ_mul]
      have e2 : (j + 1 + n) * es = (j + (n + 1)) * es := by congr 1; omega
      have e3 : j * es + es ≤ (j + (n + 1)) * es := by rw [← e1]; exact Nat.mul_le_mul_right _ (by omega)
      rw [List.getElem?_append, hl]
      repeat' split
      all_goals first | rfl | (exfalso; omega) | (congr 1; omega)

theorem elemsK_spec {G : List Gh} {ei : TI} : ∀ (ps : List (Nat × Operand)) (j : Nat) {h : HP} {S : BS} {F : Nat → BS} (hg : Good E G h w S F) (ht : TR G w E.Ro S t a) {K : List (List AV) → HP → Prop} (hp : elemsK t ei j ps h K),
    ∃ (L : List (List AV)) (vL : List (List Value)) (h' : HP) (S' : BS) (F' : Nat → BS) (Fy : BS), K L h' ∧ Stp E G w h S F h' S' F' ∧ L.length = ps.length ∧ vL.length = ps.length ∧ (∀ l ∈ L, l.length = ei.size) ∧
      (∀ (i : Nat) p, ps[i]? = some p → p.1 = j + i ∧ ∃ l : List Value, vL[i]? = some l ∧ l.length = ei.size ∧ (a.eval p.2).cells = l.toArray) ∧ CsR G w E.Ro S' L.flatten vL.flatten Fy ∧ Apart E w S' F' Fy ∧ ∀ k, Fy k → ∃ r, F r k
  | [], j, h, S, F, hg, ht, K, hp => ⟨[], [], h, S, F, _, hp, .refl hg, rfl, rfl, by simp, by simp, CsR.nil, apart0, fun _ h => h.elim⟩
  | (i, x) :: ps, j, h, S, F, hg, ht, K, hp => by
    simp only [elemsK] at hp
    split at hp
    · rename_i hij
      have hij : i = j := Nat.eq_of_beq_eq_true hij
      rw [evK_eq] at hp
      obtain ⟨cs, vs, hp1, c1, c2, c3, c4, c5⟩ := cells_spec (evF_spec ht x) hp
      obtain ⟨cs', h1, S1, F1, F2, hp2, st1, hcr, hap, hF2⟩ := foldCs_spec cs vs hg c3 c4 hp1
      obtain ⟨L, vL, h', S', F', Fy, hp3, st2, d1, d2, d3, d4, d5, d6, d7⟩ := elemsK_spec ps (j + 1) st1.good (ht.ext st1.ext) hp2
      have hap2 := st2.apart hap
      have hl : cs'.length = vs.length := hcr.choose_spec.1
      refine ⟨cs' :: L, vs :: vL, h', S', F', fun k => F2 k ∨ Fy k, hp3, st1.trans st2, by simp [d1], by simp [d2], fun l hl' => ?_, fun q p hq => ?_, ?_, ⟨fun k hk => hk.elim (hap2.1 k) (d6.1 k), fun r k hr hk => hk.elim (hap2.2 r k hr) (d6.2 r k hr)⟩, fun k hk => hk.elim (hF2 k) (fun h => (d7 k h).elim fun r h => ⟨r, st1.sub r k h⟩)⟩
      · rcases List.mem_cons.1 hl' with rfl | hl'
        · omega
        · exact d3 l hl'
      · cases q with
        | zero => simp at hq; subst hq; exact ⟨by simpa using hij, vs, rfl, c2, c1⟩
        | succ q =>
          obtain ⟨e1, l, e2, e3, e4⟩ := d4 q p (by simpa using hq)
          exact ⟨by omega, l, by simpa using e2, e3, e4⟩
      · rw [List.flatten_cons, List.flatten_cons]
        exact (hcr.ext st2.ext (fun _ _ => rfl)).append d5 (fun k h1 h2 => by obtain ⟨r, hr⟩ := d7 k h2; exact hap.2 r k hr h1)
    · exact hp.elim

theorem s_buildSlice {ty : TypeId} {n : Nat} {ps : Array (Nat × Operand)} (hC : CtxOk P C) (ho : o.op = .buildSlice ty n ps) : OpS P C o := by
  intro E D t h a w k next Q hp ⟨G, S, F, hg, ht, hd⟩ hpan hc
  unfold opP at hp
  simp only [ho] at hp
  obtain ⟨i, hi, hpi⟩ := on_spec hp
  clear hp
  obtain ⟨info, dd, z0, h1, h2, h3, h4, h5, h6, _⟩ := hC.tab _ _ hi
  split at hpi
  · rename_i e es hk
    obtain ⟨ei, hei, hp⟩ := on_spec hpi
    clear hpi
    obtain ⟨ie, de, z, b1, b2, b3, b4, b5, b6, b7, b8, b9, b10, b11⟩ := hC.tab _ _ hei
    rw [hk] at h6
    cases dd <;> simp only [KindOk] at h6
    rename_i elem
    obtain ⟨he, ie', c1, c2⟩ := h6
    subst he
    rw [b1] at c1; cases c1
    split at hp
    · rename_i hn hbig
      have hn : ps.toList.length = n := Nat.eq_of_beq_eq_true hn
      have hbig : n * ei.size ≤ 16777216 := Nat.le_of_ble_eq_true hbig
      obtain ⟨L, vL, h', S', F', Fy, hp1, st, d1, d2, d3, d4, d5, d6, d7⟩ := elemsK_spec ps.toList 0 hg ht hp
      have hp2 := newK_spec hp1
      have hes : es = ei.size := by omega
      subst hes
      have hvl : ∀ l ∈ vL, l.length = ei.size := by
        intro l hl
        obtain ⟨q, hq, rfl⟩ := List.mem_iff_getElem.1 hl
        obtain ⟨_, l, e2, e3, _⟩ := d4 q _ (List.getElem?_eq_getElem (by omega))
        rw [List.getElem?_eq_getElem hq] at e2
        cases e2; exact e3
      have hvlen : vL.flatten.length = n * ei.size := by
        have : ∀ (l : List (List Value)), (∀ e ∈ l, e.length = ei.size) → l.flatten.length = l.length * ei.size := by
          intro l
          induction l with
          | nil => simp
          | cons e l ih => intro h; rw [List.flatten_cons, List.length_append, ih (fun x hx => h x (by simp [hx])), h e (by simp), List.length_cons, Nat.add_mul]; omega
        rw [this _ hvl, d2, hn]
      obtain ⟨c0, hc0⟩ : ∃ c0 : Array Value, c0 = (Array.range (n * ei.size)).map ((if n * ei.size = 0 then #[] else z.cells)[· % (if n * ei.size = 0 then #[] else z.cells).size]!) := ⟨_, rfl⟩
      have hc0s : c0.size = n * ei.size := by rw [hc0]; simp
      obtain ⟨cells, k1, k2, k3⟩ := fill_elems (es := ei.size) #[] n vL (ps.map fun (i, x) => (i, a.eval x)).toList 0 c0 (by omega) (by simp; omega) (fun q l hq => by
        have hql := (List.getElem?_eq_some_iff.1 hq).1
        obtain ⟨e1, l', e2, e3, e4⟩ := d4 q ps.toList[q] (List.getElem?_eq_getElem (by omega))
        rw [hq] at e2; cases e2
        refine ⟨e3, _, ?_, e4⟩
        rw [Array.toList_map, List.getElem?_map, List.getElem?_eq_getElem (by omega)]
        simpa using e1) (by rw [hc0s, Nat.zero_add]; exact Nat.le_refl _)
      have hcells : cells = vL.flatten.toArray := by
        apply Array.ext'
        apply List.ext_getElem?
        intro q
        have := k3 q
        simp only [Nat.zero_mul, Nat.zero_le, true_and, Nat.zero_add, Nat.sub_zero] at this
        rw [Array.getElem?_toList, this]
        by_cases hq : q < n * ei.size
        · rw [if_pos hq]
        · rw [if_neg hq, Array.getElem?_eq_none (by omega)]
          exact (List.getElem?_eq_none (by rw [hvlen]; omega)).symm
      have hrun : (Instr.buildSlice ty n (ps.map fun (i, x) => (i, a.eval x))).run P w = .ok (.slice (some ⟨w.heap.size, 0, none⟩) n n) (w.alloc (.cells cells elem)) := by
        unfold Instr.buildSlice
        simp only [Sem.run_bind, run_underlying h4, Result.andThen_ok, run_sizeOf' b1, c2]
        rw [if_neg (show ¬ (n * ei.size > 2 ^ 24) by omega)]
        by_cases h0 : n * ei.size = 0
        · simp only [h0, if_true, Sem.run_bind, Sem.run_pure, Result.andThen_ok] at hc0 ⊢
          rw [← hc0] 
          simp only [k1]
          simp [newRow]
        · simp only [h0, if_false, Sem.run_bind, run_zero b1 b7, Sem.run_pure, Result.andThen_ok] at hc0 ⊢
          simp only [← hc0, k1]
          simp [newRow]
      have hg2 := st.good
      have hlen2 : L.flatten.length = n * ei.size := by rw [flat_length _ _ d3, d1, hn]
      have hchg := Chg.alloc w (.cells cells elem) (fun _ => False)
      have hg3 := hg2.chg hchg
      have hnew := heap_new w (.cells cells elem)
      have hsz3 : (w.alloc (.cells cells elem)).heap.size = w.heap.size + 1 := by simp
      have he3 := hg2.ext_none hchg (pre_append G ⟨some w.heap.size, ei.size, cells.size⟩)
      have hcs3 := d5.ext he3 (fun k hk => hchg.heap k (d6.1 k hk).1 (fun h => h))
      have hblk := hcs3.blk (b := w.heap.size) (cs := cells) (fun j hj => by rw [hcells]; simp) (fun hk => by have := (d6.1 _ hk).1; omega)
      have hap3 : Apart E (w.alloc (.cells cells elem)) S' F' (fun k => k = w.heap.size ∨ Fy k) := by
        refine ⟨fun k hk => ?_, fun r k hr hk => ?_⟩
        · rcases hk with rfl | hk
          · exact ⟨by omega, .inr hg2.size, fun hs => by have := hg2.sb _ hs; omega⟩
          · have := d6.1 k hk; exact ⟨by omega, this.2⟩
        · rcases hk with rfl | hk
          · have := (hg2.own r _ hr).1; omega
          · exact d6.2 r k hr hk
      have hcsz : cells.size = n * ei.size := by rw [k2, hc0s]
      obtain ⟨F'', hg4, hgl⟩ := hg3.addApart hap3 ⟨some w.heap.size, ei.size, cells.size⟩ (.lst ei.size L)
        ⟨rfl, d3, .inr ⟨w.heap.size, cells, elem, rfl, hnew, rfl, by rw [hlen2, hcsz]; exact Nat.le_refl _, hblk⟩⟩
      refine wp_val (v := .slice (some ⟨w.heap.size, 0, none⟩) n n) (w' := w.alloc (.cells cells elem)) ?_ (rel_put hg4 ((ht.ext st.ext).ext he3) hd (.slc _ _ _ _ _ _ _ hgl (Nat.le_refl _) (fun _ => rfl) (.inr ⟨w.heap.size, rfl, by rw [Nat.zero_mul], by rw [Nat.zero_add, hcsz]; exact Nat.le_refl _⟩)) hp2 hc)
      simp [execOp, ho, hrun]
    · exact hp.elim
  · exact hpi.elim

/-! ### Maps -/

theorem MK.val_inj {p q : MK} (h : p.val = q.val) : p = q := by
  cases p <;> cases q <;> simp [MK.val] at h <;> simp [h]
/-- Where a key stands. -/
theorem mapFind_spec : ∀ (l : List (MK × Value)) (q : MK), (mapFind q l = none ∧ (∀ p ∈ l, p.1 ≠ q) ∧ ∀ x, mapSet q x l = l ++ [(q, x)]) ∨
    ∃ j v, mapFind q l = some v ∧ l[j]? = some (q, v) ∧ (∀ i p, i < j → l[i]? = some p → p.1 ≠ q) ∧ ∀ x, mapSet q x l = l.set j (q, x)
  | [], q => .inl ⟨rfl, by simp, fun x => rfl⟩
  | (a, v) :: l, q => by
    by_cases haq : a = q
    · subst haq
      exact .inr ⟨0, v, by simp [mapFind], rfl, by simp, fun x => by simp [mapSet]⟩
    · rcases mapFind_spec l q with ⟨h1, h2, h3⟩ | ⟨j, u, h1, h2, h3, h4⟩
      · refine .inl ⟨by simp [mapFind, haq, h1], fun p hp => ?_, fun x => by simp [mapSet, haq, h3]⟩
        rcases List.mem_cons.1 hp with rfl | hp
        · exact haq
        · exact h2 p hp
      · refine .inr ⟨j + 1, u, by simp [mapFind, haq, h1], by simpa using h2, fun i p hi hp => ?_, fun x => by simp [mapSet, haq, h4]⟩
        cases i with
        | zero => simp at hp; subst hp; exact haq
        | succ i => exact h3 i p (by omega) (by simpa using hp)

theorem ba_beq (a b : ByteArray) : (a == b) = decide (a = b) := by
  rw [Bool.eq_iff_iff, beq_toListBytes, ByteArray.toList_eq, ByteArray.toList_eq]
  simp only [beq_iff_eq, decide_eq_true_eq]
  refine ⟨fun h => ?_, fun h => by rw [h]⟩
  obtain ⟨⟨x⟩⟩ := a
  obtain ⟨⟨y⟩⟩ := b
  simpa using h
theorem sameNow_tag {d : TypeDesc} {p q : MK} (h : (d = .string ∧ p.tag = 0 ∧ q.tag = 0) ∨ (d = .int .i64 ∧ p.tag = 1 ∧ q.tag = 1)) : Instr.sameNow d q.val p.val = some (decide (p = q)) := by
  rcases h with ⟨rfl, h1, h2⟩ | ⟨rfl, h1, h2⟩ <;> cases p <;> cases q <;> simp [MK.tag] at h1 h2
  · rename_i x y
    simp only [MK.val, Instr.sameNow, Option.some.injEq, MK.s.injEq]
    rw [ba_beq, Bool.eq_iff_iff, decide_eq_true_eq, decide_eq_true_eq]
    exact ⟨fun h => h.symm, fun h => h.symm⟩
  · rename_i x y
    simp only [MK.val, Instr.sameNow, Option.some.injEq, MK.i.injEq, if_true]
    rw [Bool.eq_iff_iff, beq_iff_eq, decide_eq_true_eq]
    exact ⟨fun h => h.symm, fun h => h.symm⟩
theorem findNow_run {d : TypeDesc} {q : MK} : ∀ (es : List MapEntry) (l : List (MK × Value)) (i : Nat), es.map (fun e => (e.key, e.val)) = l.map (fun p => (p.1.val, p.2)) → (∀ p ∈ l, (d = .string ∧ p.1.tag = 0 ∧ q.tag = 0) ∨ (d = .int .i64 ∧ p.1.tag = 1 ∧ q.tag = 1)) →
    (mapFind q l = none → Instr.findNow d q.val es i = some none) ∧ ∀ j v, mapFind q l = some v → l[j]? = some (q, v) → (∀ i p, i < j → l[i]? = some p → p.1 ≠ q) → Instr.findNow d q.val es i = some (some (i + j, v))
  | [], [], i, _, _ => ⟨fun _ => rfl, fun j v h => by simp [mapFind] at h⟩
  | [], _ :: _, i, h, _ => by simp at h
  | _ :: _, [], i, h, _ => by simp at h
  | e :: es, (a, u) :: l, i, h, ht => by
    simp only [List.map_cons, List.cons.injEq, Prod.mk.injEq] at h
    obtain ⟨⟨h1, h2⟩, h3⟩ := h
    have hs := sameNow_tag (ht (a, u) (by simp))
    obtain ⟨r1, r2⟩ := findNow_run es l (i + 1) h3 (fun p hp => ht p (by simp [hp]))
    refine ⟨fun hn => ?_, fun j v hf hj hb => ?_⟩
    · by_cases haq : a = q
      · subst haq; simp [mapFind] at hn
      · simp only [mapFind, haq, if_false] at hn
        simp [Instr.findNow, h1, hs, haq, r1 hn]
    · by_cases haq : a = q
      · subst haq
        cases j with
        | zero => simp at hj; subst hj; simp [Instr.findNow, h1, hs, h2]
        | succ j => exact absurd rfl (hb 0 (a, u) (by omega) rfl)
      · simp only [mapFind, haq, if_false] at hf
        cases j with
        | zero => simp at hj; exact absurd hj.1 haq
        | succ j =>
          have := r2 j v hf (by simpa using hj) (fun i p hi hp => hb (i + 1) p (by omega) (by simpa using hp))
          simp [Instr.findNow, h1, hs, haq, this]
          omega

/-- The kind of a map's keys. -/
def TagOk (P : Program) (kt : TypeId) (tag : Nat) : Prop := (tag = 0 ∧ P.underlying kt = some .string) ∨ (tag = 1 ∧ P.underlying kt = some (.int .i64)) ∨ (tag = 2 ∧ eqB P kt [0, 0] = true ∧ ∃ e, P.underlying kt = some (.array 2 e))
theorem tagK_spec {kt : TypeId} {i : TI} {k : Nat → Prop} (hC : CtxOk P C) (hi : C.tab kt = some i) (hp : tagK i k) : ∃ tag, k tag ∧ TagOk P kt tag := by
  obtain ⟨info, dd, z, h1, h2, h3, h4, h5, h6, _⟩ := hC.tab _ _ hi
  unfold tagK at hp
  split at hp
  · rename_i hk; rw [hk] at h6; cases dd <;> simp only [KindOk] at h6; exact ⟨0, hp, .inl ⟨rfl, h4⟩⟩
  · rename_i hk; rw [hk] at h6; cases dd <;> simp only [KindOk] at h6; subst h6; exact ⟨1, hp, .inr (.inl ⟨rfl, h4⟩)⟩
  · rename_i hk
    rw [hk] at h6
    cases dd <;> simp only [KindOk] at h6
    obtain ⟨hn, _⟩ := h6
    rw [hn] at h4
    split at hp
    · rename_i he
      exact ⟨2, hp, .inr (.inr ⟨rfl, by have := hC.eqs _ _ hi (by rw [he]; simp); rwa [he] at this, _, h4⟩)⟩
    · exact hp.elim
  · exact hp.elim
theorem keyK_spec {G Ro S} {x : AV} {v : Value} {k : MK → Prop} (hv : VR G w Ro S x v) (hp : keyK x k) : ∃ q, k q ∧ v = q.val := by
  unfold keyK at hp
  split at hp
  · exact ⟨_, hp, hv.v_inv.1⟩
  · exact ⟨_, hp, hv.v_inv.1⟩
  · obtain ⟨vs, rfl, h1, h2, h3⟩ := hv.agg_inv
    rcases vs with _ | ⟨x, _ | ⟨y, _ | ⟨_, _⟩⟩⟩ <;> simp at h1
    have e1 := (h3 0 _ rfl).v_inv.1
    have e2 := (h3 1 _ rfl).v_inv.1
    simp at e1 e2
    exact ⟨_, hp, by simp [MK.val, e1, e2]⟩
  · exact hp.elim

/-- Of keys of one kind, the search finds what 'mapFind' finds. -/
theorem run_findKeyP {kt : TypeId} {tag : Nat} (hT : TagOk P kt tag) {es : Array MapEntry} {l : List (MK × Value)} {q : MK} (he : es.toList.map (fun e => (e.key, e.val)) = l.map (fun p => (p.1.val, p.2))) (hl : ∀ p ∈ l, p.1.tag = tag) (hq : q.tag = tag) :
    (mapFind q l = none → (Instr.findKey kt q.val es.toList).run P w = .ok none w) ∧ ∀ j v, mapFind q l = some v → l[j]? = some (q, v) → (∀ i p, i < j → l[i]? = some p → p.1 ≠ q) → (Instr.findKey kt q.val es.toList).run P w = .ok (some (j, v)) w := by
  rcases hT with ⟨rfl, hu⟩ | ⟨rfl, hu⟩ | ⟨rfl, hu, e, hue⟩
  · obtain ⟨r1, r2⟩ := findNow_run (d := .string) (q := q) es.toList l 0 he (fun p hp => .inl ⟨rfl, hl p hp, hq⟩)
    exact ⟨fun h => Go.MapKept.run_findKey hu (r1 h), fun j v h1 h2 h3 => by simpa using Go.MapKept.run_findKey hu (r2 j v h1 h2 h3)⟩
  · obtain ⟨r1, r2⟩ := findNow_run (d := .int .i64) (q := q) es.toList l 0 he (fun p hp => .inr ⟨rfl, hl p hp, hq⟩)
    exact ⟨fun h => Go.MapKept.run_findKey hu (r1 h), fun j v h1 h2 h3 => by simpa using Go.MapKept.run_findKey hu (r2 j v h1 h2 h3)⟩
  · have hk : ∀ p : MK, p.tag = 2 → ∀ w, (Op.equal kt q.val p.val).run P w = .ok (decide (p = q)) w := by
      intro p hp w
      cases p <;> cases q <;> simp [MK.tag] at hp hq
      rename_i a b a' b'
      obtain ⟨e, r1, _, r2⟩ := eqAgg (P := P) (G := []) (Ro := fun _ => False) (S := fun _ => False) (w0 := w) (ks := [0, 0]) (l := [.v (.int .i64 a'), .v (.int .i64 b')]) (r := [.v (.int .i64 a), .v (.int .i64 b)]) (xs := [.int .i64 a', .int .i64 b']) (ys := [.int .i64 a, .int .i64 b])
        (K := fun e => e = ((a' == a) && ((b' == b) && true))) hu rfl rfl (fun j x hj => by
          rcases j with _ | _ | j <;> simp at hj <;> subst hj <;> exact vr_int _ _ _ _ _ _) (fun j x hj => by
          rcases j with _ | _ | j <;> simp at hj <;> subst hj <;> exact vr_int _ _ _ _ _ _) (by simp [eqCells])
      have := r2 w
      rw [r1] at this
      simp only [Op.equal, Op.maxDepth, MK.val]
      refine this.trans ?_
      congr 1
      rw [Bool.eq_iff_iff]
      simp
      exact ⟨fun h => ⟨h.1.symm, h.2.symm⟩, fun h => ⟨h.1.symm, h.2.symm⟩⟩
    have ask : ∀ (es : List MapEntry) (l : List (MK × Value)) (i : Nat), es.map (fun e => (e.key, e.val)) = l.map (fun p => (p.1.val, p.2)) → (∀ p ∈ l, p.1.tag = 2) →
        (mapFind q l = none → (Instr.findAsking kt q.val es i).run P w = .ok none w) ∧ ∀ j v, mapFind q l = some v → l[j]? = some (q, v) → (∀ i p, i < j → l[i]? = some p → p.1 ≠ q) → (Instr.findAsking kt q.val es i).run P w = .ok (some (i + j, v)) w := by
      intro es
      induction es with
      | nil =>
        intro l i h _
        cases l with
        | nil => exact ⟨fun _ => by simp [Instr.findAsking], fun j v h => by simp [mapFind] at h⟩
        | cons _ _ => simp at h
      | cons e es ih =>
        intro l i h ht
        cases l with
        | nil => simp at h
        | cons p l =>
          obtain ⟨a, u⟩ := p
          simp only [List.map_cons, List.cons.injEq, Prod.mk.injEq] at h
          obtain ⟨⟨h1, h2⟩, h3⟩ := h
          have hs := hk a (ht (a, u) (by simp)) w
          obtain ⟨r1, r2⟩ := ih l (i + 1) h3 (fun p hp => ht p (by simp [hp]))
          refine ⟨fun hn => ?_, fun j v hf hj hb => ?_⟩
          · by_cases haq : a = q
            · subst haq; simp [mapFind] at hn
            · simp only [mapFind, haq, if_false] at hn
              simp [Instr.findAsking, h1, hs, haq, r1 hn]
          · by_cases haq : a = q
            · subst haq
              cases j with
              | zero => simp at hj; subst hj; simp [Instr.findAsking, h1, hs, h2]
              | succ j => exact absurd rfl (hb 0 (a, u) (by omega) rfl)
            · simp only [mapFind, haq, if_false] at hf
              cases j with
              | zero => simp at hj; exact absurd hj.1 haq
              | succ j =>
                have := r2 j v hf (by simpa using hj) (fun i p hi hp => hb (i + 1) p (by omega) (by simpa using hp))
                simp [Instr.findAsking, h1, hs, haq, this]
                omega
    have hnow : ∀ r : Option (Nat × Value), (Instr.findAsking kt q.val es.toList).run P w = .ok r w → (Instr.findKey kt q.val es.toList).run P w = .ok r w := by
      intro r hr
      unfold Instr.findKey
      simp only [Sem.run_bind, run_underlying hue, Result.andThen_ok]
      cases hes : es.toList with
      | nil => rw [hes] at hr; simpa [Instr.findNow, Instr.findAsking] using hr
      | cons x r' =>
        rw [hes] at hr
        have : Instr.findNow (.array 2 e) q.val (x :: r') 0 = none := by simp [Instr.findNow, Instr.sameNow]
        rw [this]
        exact hr
    obtain ⟨r1, r2⟩ := ask es.toList l 0 he hl
    exact ⟨fun h => hnow _ (r1 h), fun j v h1 h2 h3 => by simpa using hnow _ (r2 j v h1 h2 h3)⟩

theorem run_checkKeyP {kt : TypeId} {tag : Nat} (hT : TagOk P kt tag) {q : MK} (hq : q.tag = tag) (b : Bool) : (Instr.checkKey b 10000 kt q.val).run P w = .ok () w := by
  rcases hT with ⟨rfl, hu⟩ | ⟨rfl, hu⟩ | ⟨rfl, he, e, hue⟩
  · cases q <;> simp [MK.tag] at hq
    exact MapKept.run_checkKey hu (by trivial) b 9999
  · cases q <;> simp [MK.tag] at hq
    exact MapKept.run_checkKey hu (by simp [MK.val, MapKept.IsKey]) b 9999
  · cases q <;> simp [MK.tag] at hq
    rename_i x y
    unfold eqB at he
    rw [hue] at he
    simp only at he
    split at he
    · rename_i hu2 hi2 _
      simp only [Bool.and_eq_true, Bool.not_eq_true', beq_iff_eq] at he
      have hb : basicB P e 0 = true := by simp [basicB, hu2]
      have hc : ∀ n, (Instr.checkKey b 9999 e (.int .i64 n)).run P w = .ok () w := fun n => MapKept.run_checkKey hu2 (by simp [MapKept.IsKey]) b 9998
      rw [show (10000 : Nat) = 9999 + 1 from rfl]
      unfold Instr.checkKey
      simp only [MK.val, Sem.run_bind, run_underlying hue, Result.andThen_ok]
      simp [Std.Legacy.Range.forIn_eq_forIn_range', Std.Legacy.Range.size, List.range', run_sizeOf' hi2, he.2, run_part_basic (P := P) (w := w) (t := e) (xs := #[.int .i64 x, .int .i64 y]) (o := 0) hb rfl, run_part_basic (P := P) (w := w) (t := e) (xs := #[.int .i64 x, .int .i64 y]) (o := 1) hb rfl, hc]
    · cases he

theorem avOf_vr {G Ro S} {v : Value} (h : v.oneA = true) : VR G w Ro S (avOf v) v := by
  unfold avOf
  split
  · rename_i cs
    simp only [Value.oneA, Array.all_eq_true'] at h
    have := VR.agg (G := G) (w := w) (Ro := Ro) (S := S) (cs.toList.map .v) cs.toList (by simp) (fun v hv => h v (by simpa using hv)) (fun j x hj => by
      rw [List.getElem?_map] at hj
      cases hq : cs.toList[j]? with
      | none => simp [hq] at hj
      | some y =>
        simp [hq] at hj
        subst hj
        rw [List.getD_eq_getElem?_getD, hq]
        exact .ir _ _ rfl (.v _ _ (h y (by have := List.mem_of_getElem? hq; simpa using this))))
    simpa using this
  · rename_i hne
    have : v.oneCell' = true := by cases v <;> first | exact absurd rfl (hne _) | exact h
    exact .ir _ _ rfl (.v _ _ this)

theorem q_lookup {ty : TypeId} {m x : Operand} {b : Bool} (hC : CtxOk P C) (ho : o.op = .lookup ty m x b) : OpQ P C o := by
  intro E D t h a w k hp ⟨G, S, F, hg, ht, hd⟩
  unfold opP at hp
  simp only [ho, evK_eq] at hp
  obtain ⟨i, hi, hpi⟩ := on_spec hp
  clear hp
  obtain ⟨info, dd, z, h1, h2, h3, h4, h5, h6, _⟩ := hC.tab _ _ hi
  have hvm := evF_spec ht m
  have hvx := evF_spec ht x
  unfold lookP at hpi
  split at hpi
  · rename_i kt et r hk hb
    rw [hb] at hvm
    rw [hk] at h6
    obtain ⟨ki, hki, hp1⟩ := on_spec hpi
    clear hpi
    obtain ⟨tag, hp2, hT⟩ := tagK_spec hC hki hp1
    obtain ⟨ei, hei, hp3⟩ := on_spec hp2
    obtain ⟨q, hp4, hq⟩ := keyK_spec hvx hp3
    obtain ⟨rt, hr, hp5⟩ := rootK_spec hp4
    clear hp1 hp2 hp3 hp4
    obtain ⟨einfo, de, ez, e1, e2, e3, e4, e5, e6, e7, e8, e9, e10, e11⟩ := hC.tab _ _ hei
    cases rt with
    | mp tag' l =>
      simp only at hp5
      split at hp5
      · rename_i ht1 ht2
        have ht1 := Nat.eq_of_beq_eq_true ht1
        have ht2 := Nat.eq_of_beq_eq_true ht2
        subst ht1
        obtain ⟨bb, g, p1, p2, p3⟩ := hvm.mapr_inv
        obtain ⟨b', es, clock, u1, u2, u3, u4, u5⟩ := hg.root r _ g hr p1
        rw [p2] at u1; cases u1
        obtain ⟨hs, hn⟩ := hp5
        have hdd : dd = .map kt et := by
          cases dd <;> simp only [KindOk] at h6
          obtain ⟨rfl, rfl⟩ := h6; rfl
        subst hdd
        have hheap : ∀ w2, Chg w w2 (fun _ => False) → w2.heap[bb]? = some (.map es clock) := fun w2 hw => by rw [hw.heap _ (Array.getElem?_eq_some_iff.1 u2).1 (fun h => h)]; exact u2
        have hf := fun w : World => run_findKeyP (P := P) (w := w) hT u3 (fun p hp => (u4 p hp).1) ht2
        have hzk := hC.zok _ _ hei
        unfold zeroOk at hzk
        rw [e1] at hzk
        simp only [e7] at hzk
        have hzero : ∀ K : AV → Prop, (mapK nilK ei.zero fun z => valK ei z K) → ∃ y, K y ∧ VR G w E.Ro S y ez := by
          intro K hK
          rw [mapK_nil] at hK
          have hz : ∀ (j : Nat) y, (ei.zero.map nilF)[j]? = some y → VR G w E.Ro S y (ez.cells.getD (0 + j) undef) := by
            intro j y hj
            rw [List.getElem?_map] at hj
            cases hij : ei.zero[j]? with
            | none => simp [hij] at hj
            | some q0 =>
              simp [hij] at hj
              subst hj
              rw [Nat.zero_add]
              rcases e10 j q0 hij with ⟨y0, rfl, r1, r2⟩ | ⟨s0, rfl, r1⟩
              · rw [r1]; exact .ir _ _ rfl (.v _ _ r2)
              · rw [r1]; exact .nils
          have h1c : ∀ j, j < ei.size → (ez.cells.getD (0 + j) undef).oneCell' = true := by
            intro j hj
            rw [Nat.zero_add]
            rcases e10 j ei.zero[j] (List.getElem?_eq_getElem (by omega)) with ⟨y0, _, r1, r2⟩ | ⟨s0, _, r1⟩
            · rw [r1]; exact r2
            · rw [r1]; rfl
          obtain ⟨y, hy, hvy⟩ := valK_spec (G := G) (w := w) (Ro := E.Ro) (S := S) (cs := ez.cells) (o := 0) (i := ei) (by simp; omega) hz h1c hK
          refine ⟨y, hy, ?_⟩
          cases hag : ei.agg with
          | true =>
            simp only [hag, if_true] at hvy
            have : segV ez.cells 0 ei.size = ez.cells.toList := by
              apply List.ext_getElem?
              intro q
              by_cases hq : q < ei.size
              · simp [segV, hq, Array.getD_eq_getD_getElem?, show q < ez.cells.size by omega]
              · rw [List.getElem?_eq_none (by rw [segV_length]; omega), List.getElem?_eq_none (by simp; omega)]
            rw [this] at hvy
            have hza : ez = .agg ez.cells := by
              rw [hag] at hzk
              cases ez <;> first | rfl | (simp at hzk)
            rw [hza]; simpa using hvy
          | false =>
            simp only [hag, Bool.false_eq_true, if_false] at hvy
            have hza : ez.cells = #[ez] := by
              rw [hag] at hzk
              cases ez <;> first | rfl | (simp at hzk)
            rw [hza] at hvy
            simpa using hvy
        rcases mapFind_spec l q with ⟨f1, f2, f3⟩ | ⟨j, v, f1, f2, f3, f4⟩
        · obtain ⟨y, hy, hvy⟩ := hzero _ (hn f1)
          cases b with
          | true =>
            refine q_val (v := .tuple #[ez, .bool false]) (fun w2 hw => ?_) hg ht hd (.tup [y, .v (.bool false)] [ez, .bool false] rfl (fun j x hj => ?_)) hy
            · simp [execOp, ho, p3, hq, Instr.lookup, run_underlying h4, MapKept.run_getObj_map (hheap w2 hw), run_checkKeyP (P := P) (w := w2) hT ht2, (hf w2).1 f1, run_zero e1 e7]
            · rcases j with _ | _ | j <;> simp at hj <;> subst hj
              · exact hvy
              · exact vr_bool _ _ _ _ _
          | false =>
            refine q_val (v := ez) (fun w2 hw => ?_) hg ht hd hvy hy
            simp [execOp, ho, p3, hq, Instr.lookup, run_underlying h4, MapKept.run_getObj_map (hheap w2 hw), run_checkKeyP (P := P) (w := w2) hT ht2, (hf w2).1 f1, run_zero e1 e7]
        · have hy := hs v f1
          have hv1 := avOf_vr (G := G) (w := w) (Ro := E.Ro) (S := S) (u4 _ (List.mem_of_getElem? f2)).2
          cases b with
          | true =>
            refine q_val (v := .tuple #[v, .bool true]) (fun w2 hw => ?_) hg ht hd (.tup [avOf v, .v (.bool true)] [v, .bool true] rfl (fun j x hj => ?_)) hy
            · simp [execOp, ho, p3, hq, Instr.lookup, run_underlying h4, MapKept.run_getObj_map (hheap w2 hw), run_checkKeyP (P := P) (w := w2) hT ht2, (hf w2).2 j v f1 f2 f3]
            · rcases j with _ | _ | j <;> simp at hj <;> subst hj
              · exact hv1
              · exact vr_bool _ _ _ _ _
          | false =>
            refine q_val (v := v) (fun w2 hw => ?_) hg ht hd hv1 hy
            simp [execOp, ho, p3, hq, Instr.lookup, run_underlying h4, MapKept.run_getObj_map (hheap w2 hw), run_checkKeyP (P := P) (w := w2) hT ht2, (hf w2).2 j v f1 f2 f3]
      · exact hp5.elim
    | _ => exact hp5.elim
  · exact hpi.elim

/-- A root of its own block is given a new content. -/
theorem Good.reroot {G : List Gh} {S : BS} {F : Nat → BS} (hg : Good E G h w S F) {r : Nat} {g : Gh} {rt rt' : Root} (hr : h[r]? = some rt) (hgr : G[r]? = some g) {w' : World} (c : Chg w w' (F r)) (hrt : RootR G w' E.Ro S rt' g (F r)) :
    ∃ F', Good E G (h.set r rt') w' S F' ∧ Ext E G w S G w' S :=
  ⟨_, hg.setRoot (List.getElem?_eq_some_iff.1 hr).1 hgr c hrt (fun _ h => h), hg.ext_chg c (fun _ _ h => h)⟩

theorem unV_spec : ∀ (l : List AV) (k : List Value → Prop), unV l k → ∃ vs, k vs ∧ l = vs.map .v
  | [], k, h => ⟨[], h, rfl⟩
  | x :: l, k, h => by
    cases x <;> simp only [unV] at h
    obtain ⟨vs, h1, rfl⟩ := unV_spec l _ h
    exact ⟨_, h1, rfl⟩
theorem valV_spec {G Ro S} {x : AV} {v : Value} {k : Value → Prop} (hv : VR G w Ro S x v) (hp : valV x k) : k v ∧ v.oneA = true := by
  unfold valV at hp
  split at hp
  · obtain ⟨rfl, h⟩ := hv.v_inv
    refine ⟨hp, ?_⟩
    clear hv hp
    cases v <;> first | exact h | (simp [Value.oneCell'] at h)
  · rename_i l
    obtain ⟨us, h1, rfl⟩ := unV_spec _ _ hp
    obtain ⟨vs, rfl, h2, h3, h4⟩ := hv.agg_inv
    have : vs = us := by
      apply List.ext_getElem?
      intro j
      by_cases hj : j < us.length
      · have := (h4 j (.v us[j]) (by simp [hj])).v_inv.1
        simp only [List.length_map] at h2
        rw [List.getD_eq_getElem?_getD, List.getElem?_eq_getElem (by omega)] at this
        rw [List.getElem?_eq_getElem (by omega), List.getElem?_eq_getElem hj]
        simpa using this
      · simp only [List.length_map] at h2
        rw [List.getElem?_eq_none (by omega), List.getElem?_eq_none (by omega)]
    subst this
    exact ⟨h1, by simp only [Value.oneA, Array.all_eq_true']; exact fun x hx => h3 x (by simpa using hx)⟩
  · exact hp.elim

theorem s_mapUpd {ty : TypeId} {m x y : Operand} (hC : CtxOk P C) (ho : o.op = .mapUpdate ty m x y ∨ o.op = .insert ty m x y) : OpS P C o := by
  intro E D t h a w k next Q hp ⟨G, S, F, hg, ht, hd⟩ hpan hc
  unfold opP at hp
  have hp : on (C.tab ty) fun i => mapUpdP C i (evF t m) (evF t x) (evF t y) h fun h => putK t o.dst .top fun t => k t h := by
    rcases ho with ho | ho <;> simpa only [ho, evK_eq] using hp
  obtain ⟨i, hi, hpi⟩ := on_spec hp
  clear hp
  obtain ⟨info, dd, z, h1, h2, h3, h4, h5, h6, _⟩ := hC.tab _ _ hi
  have hvm := evF_spec ht m
  have hvx := evF_spec ht x
  have hvy := evF_spec ht y
  unfold mapUpdP at hpi
  split at hpi
  · rename_i kt et r hk hb
    rw [hb] at hvm
    rw [hk] at h6
    obtain ⟨ki, hki, hp1⟩ := on_spec hpi
    clear hpi
    obtain ⟨tag, hp2, hT⟩ := tagK_spec hC hki hp1
    obtain ⟨q, hp3, hq⟩ := keyK_spec hvx hp2
    obtain ⟨hp4, hone⟩ := valV_spec hvy hp3
    obtain ⟨rt, hr, hp5⟩ := rootK_spec hp4
    clear hp1 hp2 hp3 hp4
    cases rt with
    | mp tag' l =>
      simp only at hp5
      split at hp5
      · rename_i ht1 ht2
        have ht1 := Nat.eq_of_beq_eq_true ht1
        have ht2 := Nat.eq_of_beq_eq_true ht2
        subst ht1
        rw [setK_eq] at hp5
        obtain ⟨bb, g, p1, p2, p3⟩ := hvm.mapr_inv
        obtain ⟨b', es, clock, u1, u2, u3, u4, u5⟩ := hg.root r _ g hr p1
        rw [p2] at u1; cases u1
        have hdd : dd = .map kt et := by
          cases dd <;> simp only [KindOk] at h6
          obtain ⟨rfl, rfl⟩ := h6; rfl
        subst hdd
        have hf := run_findKeyP (P := P) (w := w) hT u3 (fun p hp => (u4 p hp).1) ht2
        have hck := run_checkKeyP (P := P) (w := w) hT ht2 false
        have hsame : Instr.sameBits 10000 q.val q.val = true := by
          cases q with
          | s b => simp [MK.val, Instr.sameBits, ba_beq]
          | i n => simp [MK.val, Instr.sameBits]
          | p a b => rw [show (10000 : Nat) = 9998 + 1 + 1 from rfl]; simp [MK.val, Instr.sameBits]
        have hmem : ∀ p ∈ mapSet q (a.eval y) l, p.1.tag = tag ∧ p.2.oneA = true := by
          intro p hp
          rcases mapFind_spec l q with ⟨_, _, f3⟩ | ⟨j, v, _, _, _, f4⟩
          · rw [f3] at hp
            rcases List.mem_append.1 hp with hp | hp
            · exact u4 p hp
            · simp at hp; subst hp; exact ⟨ht2, hone⟩
          · rw [f4] at hp
            rcases List.mem_or_eq_of_mem_set hp with hp | rfl
            · exact u4 p hp
            · exact ⟨ht2, hone⟩
        have fin : ∀ (es' : Array MapEntry) (clock' : Nat), (Instr.mapUpdate ty (.map (some bb)) q.val (a.eval y)).run P w = .ok () { w with heap := w.heap.setIfInBounds bb (.map es' clock') } → es'.toList.map (fun e => (e.key, e.val)) = (mapSet q (a.eval y) l).map (fun p => (p.1.val, p.2)) → o.wp P a w next Q := by
          intro es' clock' hrun hes
          have hlt := (Array.getElem?_eq_some_iff.1 u2).1
          have hchg : Chg w { w with heap := w.heap.setIfInBounds bb (.map es' clock') } (F r) := ⟨rfl, rfl, rfl, by simp, fun k hk hkf => by
            have hne : bb ≠ k := fun e => hkf ((u5 k).2 e.symm)
            simp [hne]⟩
          obtain ⟨F', hg', he'⟩ := hg.reroot (rt' := .mp tag (mapSet q (a.eval y) l)) hr p1 hchg ⟨bb, es', clock', p2, by simp [hlt], hes, hmem, u5⟩
          refine wp_skp (w' := { w with heap := w.heap.setIfInBounds bb (.map es' clock') }) ?_ (rel_put hg' (ht.ext he') hd (.top _) hp5 hc)
          rcases ho with ho | ho <;> simp [execOp, ho, p3, hq, hrun]
        rcases mapFind_spec l q with ⟨f1, f2, f3⟩ | ⟨j, v, f1, f2, f3, f4⟩
        · refine fin (es.push { key := q.val, val := a.eval y, born := clock }) (clock + 1) ?_ ?_
          · simp [Instr.mapUpdate, run_underlying h4, MapKept.run_getObj_map u2, hck, hf.1 f1, MapKept.run_setObj_map _ u2]
          · rw [f3]; simp [u3]
        · have hje : es.toList[j]? = some (es.toList[j]'(by
            have := (List.getElem?_eq_some_iff.1 f2).1
            have h2 := congrArg List.length u3
            simp at h2; simpa using (by omega : j < es.size))) := List.getElem?_eq_getElem _
          have hkey : (es.toList[j]?).map (fun e => (e.key, e.val)) = some (q.val, v) := by
            rw [← List.getElem?_map, u3, List.getElem?_map, f2]; rfl
          rw [hje] at hkey
          simp only [Option.map_some, Option.some.injEq, Prod.mk.injEq] at hkey
          refine fin (es.modify j fun e => { e with key := q.val, val := a.eval y }) clock ?_ ?_
          · have hk2 : ((es[j]?).map (·.key)).getD q.val = q.val := by
              rw [← Array.getElem?_toList, hje]; exact hkey.1
            simp [Instr.mapUpdate, run_underlying h4, MapKept.run_getObj_map u2, hck, hf.2 j v f1 f2 f3, hk2, Instr.keyThatStays, hsame, MapKept.run_setObj_map _ u2]
          · rw [f4]
            apply List.ext_getElem?
            intro i
            have hi3 := congrArg (fun l => l[i]?) u3
            simp only [List.getElem?_map, Array.getElem?_toList] at hi3
            simp only [List.getElem?_map, Array.getElem?_toList, Array.getElem?_modify, List.getElem?_set]
            by_cases hij : j = i
            · subst hij
              have hjl := (List.getElem?_eq_some_iff.1 f2).1
              rw [← Array.getElem?_toList, hje]
              simp [hjl]
            · simp [hij, hi3]
      · exact hp5.elim
    | _ => exact hp5.elim
  · exact hpi.elim

theorem s_makeMap {ty : TypeId} {r : Option Operand} (hC : CtxOk P C) (ho : o.op = .makeMap ty r) : OpS P C o := by
  intro E D t h a w k next Q hp ⟨G, S, F, hg, ht, hd⟩ hpan hc
  unfold opP at hp
  simp only [ho] at hp
  obtain ⟨i, hi, hpi⟩ := on_spec hp
  clear hp
  split at hpi
  · rename_i kt et hk
    obtain ⟨ki, hki, hp1⟩ := on_spec hpi
    obtain ⟨tag, hp2, hT⟩ := tagK_spec hC hki hp1
    have hp3 := newK_spec hp2
    have hchg := Chg.alloc w (.map #[] 0) (fun _ => False)
    have hg3 := hg.chg hchg
    have hap : Apart E (w.alloc (.map #[] 0)) S F (fun k => k = w.heap.size) := ⟨fun k hk => by subst hk; exact ⟨by simp, .inr hg.size, fun hs => by have := hg.sb _ hs; omega⟩, fun r k hr hk => by subst hk; have := (hg.own r _ hr).1; omega⟩
    obtain ⟨F', hg4, hgl⟩ := hg3.addApart hap ⟨some w.heap.size, 0, 0⟩ (.mp tag []) ⟨w.heap.size, #[], 0, rfl, heap_new w _, rfl, by simp, fun _ => Iff.rfl⟩
    refine wp_val (v := .map (some w.heap.size)) (w' := w.alloc (.map #[] 0)) ?_ (rel_put hg4 (ht.ext (hg.ext_none hchg (pre_append G _))) hd (.mapr _ _ _ hgl rfl) hp3 hc)
    simp [execOp, ho, Instr.makeMap]
  · exact hpi.elim

theorem s_clear {c : Call} (hC : CtxOk P C) (ho : o.op = .call c) (hcal : c.callee = .builtin .clear) : OpS P C o := by
  intro E D t h a w k next Q hp ⟨G, S, F, hg, ht, hd⟩ hpan hc
  unfold opP at hp
  simp only [ho, mapK_ev, hcal] at hp
  obtain ⟨T, hT, hp⟩ := on_spec hp
  obtain ⟨ti, hti, hp⟩ := on_spec hp
  obtain ⟨info, d, z0, h1, h2, h3, h4, h5, h6, _⟩ := hC.tab _ _ hti
  split at hp
  · rename_i e es xa hk hl
    obtain ⟨ei, hei, hpa⟩ := on_spec hp
    obtain ⟨ie, de, z, b1, b2, b3, b4, b5, b6, b7, b8, b9, b10, b11⟩ := hC.tab _ _ hei
    rw [hk] at h6
    cases d <;> simp only [KindOk] at h6
    rename_i elem
    obtain ⟨he, ie', c1, c2⟩ := h6
    subst he
    rw [b1] at c1; cases c1
    obtain ⟨pa, hpab⟩ : ∃ pa, c.args.toList = [pa] := by
      have : (c.args.toList.map (evF t)).length = 1 := by rw [hl]; rfl
      simp at this
      rcases hq : c.args.toList with _ | ⟨pa, _ | ⟨_, _⟩⟩ <;> rw [← Array.length_toList] at this <;> rw [hq] at this <;> simp at this
      exact ⟨pa, rfl⟩
    rw [hpab] at hl
    simp only [List.map_cons, List.map_nil] at hl
    have hva := evF_spec ht pa
    rw [(List.cons.inj hl).1] at hva
    have hargsA : c.args = #[pa] := by apply Array.ext'; simp [hpab]
    clear hp
    unfold clearP at hpa
    split at hpa
    · rename_i r off n zz
      obtain ⟨rt, hr, hpb⟩ := rootK_spec hpa
      clear hpa
      cases rt with
      | lst s l =>
        simp only at hpb
        split at hpb
        · rename_i hs
          have hs : s = es := by simpa using hs
          subst hs
          obtain ⟨hon, hpd⟩ := hpb
          rw [setK_eq] at hpd
          have hes : s = ei.size := by omega
          obtain ⟨g, ad, cp, p1, p2, p3, p4, p5⟩ := hva.slc_inv
          obtain ⟨q1, q2, q3⟩ := hg.root r _ g hr p1
          have fin : ∀ w', (Builtin.clear_ c.argTypes o.type #[a.eval pa]).run P w = .ok (.tuple #[]) w' → (∃ F', Good E G (h.set r (.lst s (l.take off ++ List.replicate n ei.zero ++ l.drop (off + n)))) w' S F' ∧ Ext E G w S G w' S) → o.wp P a w next Q := by
            rintro w' hrun ⟨F', hg', he⟩
            refine wp_val (v := .tuple #[]) (w' := w') ?_ (rel_put hg' (ht.ext he) hd (.tup [] [] rfl (by simp)) hpd hc)
            simp [execOp, ho, resolve, hcal, invoke, builtin, hargsA, hrun]
          by_cases h0 : n = 0
          · subst h0
            refine fin w ?_ ⟨F, ?_, Ext.refl _ _ _ _⟩
            · rw [p2]
              cases ad with
              | none => simp [Builtin.clear_, hT, run_underlying h4]
              | some ad => simp [Builtin.clear_, hT, run_underlying h4]
            · rw [show l.take off ++ List.replicate 0 ei.zero ++ l.drop (off + 0) = l by simp, set_self hr]
              exact hg
          · rcases p5 with p5 | ⟨b, p5, p6, p7⟩
            · omega
            subst p6
            have hz : ∀ x ∈ List.replicate n ei.zero, x.length = s := fun x hx => by rw [List.eq_of_mem_replicate hx]; omega
            obtain ⟨l1, l2⟩ := lst_lay' (o := off) q2 hz (by simpa using hon)
            rw [List.length_replicate] at l1
            have hfl := flat_length s _ hz
            rw [List.length_replicate] at hfl
            obtain ⟨vs, hvs⟩ : ∃ vs, vs = (Builtin.zeroCells z.cells n).toList := ⟨_, rfl⟩
            have hvl : vs.length = n * s := by rw [hvs, Array.length_toList, size_zeroCells]; congr 1; omega
            have hcs : CsR G w E.Ro S (List.replicate n ei.zero).flatten vs (fun _ => False) := CsR.of0 (by omega) (fun j y hj => by
              have hj1 := (List.getElem?_eq_some_iff.1 hj).1
              rw [hfl] at hj1
              have hs0 : 0 < s := by omega
              have hdiv : j / s < n := by rw [Nat.div_lt_iff_lt_mul hs0]; omega
              have hmod := Nat.mod_lt j hs0
              have h1 := flat_get s _ hz (j / s) ei.zero (by simp [hdiv]) (j % s) hmod
              rw [Nat.div_add_mod'] at h1
              have hval : vs.getD j undef = z.cells.getD (j % s) undef := by
                rw [hvs, List.getD_eq_getElem?_getD, Array.getElem?_toList]
                have hmz : j % z.cells.size < z.cells.size := Nat.mod_lt _ (by omega)
                have hjz : j < n * z.cells.size := by rw [b8]; rw [← hes]; exact hj1
                simp only [Builtin.zeroCells, Array.getElem?_map, Array.getElem?_range, hjz, if_true, Option.map_some, Option.getD_some]
                rw [getElem!_pos z.cells _ hmz, Array.getD_eq_getD_getElem?, show j % s = j % z.cells.size by rw [b8, hes]]
                simp [hmz]
              rw [hval]
              exact (b10 _ _ (h1.symm.trans hj)).c0)
            obtain ⟨F', b', ca, T2, r1, r2, r3, r4, r5⟩ := write_core hg hr p1 (show Flat (.lst s l) l.flatten from ⟨rfl, q2⟩) l2 (by
              rw [flat_length s _ q2]
              exact Nat.mul_pos (by omega) (by omega)) (show SameK (.lst s l) (.lst s _) from rfl) l1 hcs apart0
            rw [p5] at r1; cases r1
            refine fin _ ?_ ⟨F', r4, r5⟩
            have hst := run_storeCells_at P b (off * s) T2 vs 0 ca w r2 (by rw [hvl]; omega) hcs.ones
            simp only [Nat.add_zero] at hst
            rw [q1] at p2
            rw [p2]
            cases n with
            | zero => exact absurd rfl h0
            | succ n => simp [Builtin.clear_, hT, run_underlying h4, run_zero b1 b7, ← hvs, hst, spl]
        · exact hpb.elim
      | _ => exact hpb.elim
    · exact hpa.elim
  · exact hp.elim
end

end Go.Proofs.Ytegcfogbdgmajaa.Ab
