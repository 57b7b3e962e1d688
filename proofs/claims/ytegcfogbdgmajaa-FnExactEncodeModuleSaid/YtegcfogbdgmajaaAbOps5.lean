/- Append, copy, clear: each is sound. No condition. -/
import Derived.Test.YtegcfogbdgmajaaAbOps4
namespace Go.Proofs.Ytegcfogbdgmajaa.Ab
set_option linter.unusedVariables false
set_option linter.unusedSimpArgs false

section
variable {P : Program} {C : Ctx} {E : Env} {D : List Deferred × Nat} {o : Oper} {t : TS} {h : HP} {a : Act} {w : World} {k : TS → HP → Prop} {next : Act → World → Prop} {Q : Exit → Act → World → Prop}

theorem SrcR.ext {G S S' es L v vs Fy} (h : SrcR P G w E.Ro S es L v vs Fy) (e : Ext E G w S G w S') : SrcR P G w E.Ro S' es L v vs Fy := ⟨h.el, h.len, h.cells.ext e (fun _ _ => rfl), h.num, h.get⟩

theorem movK_spec {G S F} (hg : Good E G h w S F) {ei : TI} {es : Nat} {x : AV} {v : Value} {k : List (List AV) → HP → Prop} (hes : 0 < es) (hv : VR G w E.Ro S x v) (hp : movK ei es x h k) :
    ∃ L h' F' vs Fy, k L h' ∧ Stp E G w h S F h' S F' ∧ SrcR P G w E.Ro S es L v vs Fy ∧ Apart E w S F' Fy := by
  unfold movK at hp
  split at hp
  · obtain ⟨L, vs, h1, h2⟩ := srcK_spec (P := P) hg hes hv hp
    exact ⟨L, h, F, vs, _, h1, .refl hg, h2, apart0⟩
  · split at hp
    · have := hv.nils_inv
      subst this
      exact ⟨[], h, F, [], _, hp, .refl hg, srcR_nil, apart0⟩
    · rename_i r n z
      obtain ⟨rt, hr, hp2⟩ := rootK_spec hp
      clear hp
      cases rt with
      | lst s l =>
        simp only at hp2
        split at hp2
        · rename_i hs
          have hs : s = es := by simpa using hs
          subst hs
          obtain ⟨hn, hp3⟩ := hp2
          rw [setK_eq] at hp3
          obtain ⟨g, hgr, hroot, hstp, hap⟩ := hg.kill hr
          obtain ⟨g', ad, c, p1, p2, p3, p4, p5⟩ := hv.slc_inv
          rw [hgr] at p1; cases p1
          subst p2
          obtain ⟨q1, q2, q3⟩ := hroot
          by_cases h0 : n = 0
          · subst h0
            have : l = [] := by simpa using hn
            subst this
            exact ⟨[], _, _, [], _, hp3, hstp, srcR_nil, apart0⟩
          rcases p5 with p5 | ⟨b, p5, p6, p7⟩
          · omega
          subst p6
          rcases q3 with ⟨q3, _⟩ | ⟨b', cs, T, u1, u2, u3, u4, u5⟩
          · rw [q3] at p5; cases p5
          rw [p5] at u1; cases u1
          obtain ⟨Fy, c1, c2, c3⟩ := blk_csR u5
          have hfl := flat_length _ _ q2
          refine ⟨l, _, _, _, Fy, hp3, hstp, ⟨q2, by rw [segV_length, hfl], c1, fun w2 _ => by simp [Builtin.lenOf, hn], fun w2 hw m hm => ?_⟩, fun k hk => hap.1 k ((c2 k).2 (.inr hk)), fun i k hi hk => hap.2 i k hi ((c2 k).2 (.inr hk))⟩
          have hle : m * s ≤ l.flatten.length := by rw [hfl]; exact Nat.mul_le_mul_right _ hm
          rw [segV_take hle, Nat.zero_mul]
          exact run_firstCells_blk (by rw [hw.heap _ (Array.getElem?_eq_some_iff.1 u2).1 (fun h => h)]; exact u2) (by omega)
        · exact hp2.elim
      | _ => exact hp2.elim
    · exact hp.elim

/-- What is appended to: nothing with no room, or a block. -/
def BaseR (G : List Gh) (w : World) (Ro S : BS) (es : Nat) (l : List (List AV)) (v : Value) (Fb : BS) : Prop :=
  (∀ e ∈ l, e.length = es) ∧ ((∃ ad, v = .slice ad 0 0 ∧ l = []) ∨ ∃ b c cs T, v = .slice (some ⟨b, 0, none⟩) l.length c ∧ w.heap[b]? = some (.cells cs T (0, 0)) ∧ l.length ≤ c ∧ c * es ≤ cs.size ∧ BlkR G w Ro S l.flatten b cs Fb)

theorem baseK_spec {G S F} (hg : Good E G h w S F) {es : Nat} {x : AV} {v : Value} {k : List (List AV) → HP → Prop} (hv : VR G w E.Ro S x v) (hp : baseK es x h k) :
    ∃ L h' F' Fb, k L h' ∧ Stp E G w h S F h' S F' ∧ BaseR G w E.Ro S es L v Fb ∧ Apart E w S F' Fb ∧ ∀ k, Fb k → ∃ r, F r k := by
  unfold baseK at hp
  split at hp
  · exact ⟨[], h, F, fun _ => False, hp, .refl hg, ⟨by simp, .inl ⟨none, hv.nils_inv, rfl⟩⟩, apart0, fun _ h => h.elim⟩
  · obtain ⟨ad, c, p1, p2, p3⟩ := hv.imm_inv
    have := p2 rfl
    simp at this
    subst this
    exact ⟨[], h, F, fun _ => False, hp, .refl hg, ⟨by simp, .inl ⟨ad, p1, rfl⟩⟩, apart0, fun _ h => h.elim⟩
  · rename_i r n z
    obtain ⟨rt, hr, hp2⟩ := rootK_spec hp
    clear hp
    cases rt with
    | lst s l =>
      simp only at hp2
      split at hp2
      · rename_i hs
        have hs : s = es := by simpa using hs
        subst hs
        obtain ⟨hn, hp3⟩ := hp2
        rw [setK_eq] at hp3
        obtain ⟨g, hgr, hroot, hstp, hap⟩ := hg.kill hr
        obtain ⟨g', ad, c, p1, p2, p3, p4, p5⟩ := hv.slc_inv
        rw [hgr] at p1; cases p1
        subst p2
        obtain ⟨q1, q2, q3⟩ := hroot
        rcases p5 with p5 | ⟨b, p5, p6, p7⟩
        · subst p5
          have : n = 0 := by omega
          subst this
          have : l = [] := by simpa using hn
          subst this
          exact ⟨[], _, _, fun _ => False, hp3, hstp, ⟨by simp, .inl ⟨ad, rfl, rfl⟩⟩, apart0, fun _ h => h.elim⟩
        subst p6
        rcases q3 with ⟨q3, _⟩ | ⟨b', cs, T, u1, u2, u3, u4, u5⟩
        · rw [q3] at p5; cases p5
        rw [p5] at u1; cases u1
        refine ⟨l, _, _, F r, hp3, hstp, ⟨q2, .inr ⟨b, c, cs, T, by rw [Nat.zero_mul, hn], u2, by omega, ?_, u5⟩⟩, hap, fun k hk => ⟨r, hk⟩⟩
        rw [← q1, u3]; simpa using p7
      · exact hp2.elim
    | _ => exact hp2.elim
  · exact hp.elim

/-! ### Append -/

variable {T T' ty e : TypeId} {i : TypeInfo} {z : Value} {d' : TypeDesc}

theorem run_append_some {b off sLen sCap n : Nat} {x : Value} {news : List Value} {cs : Array Value} {Tb : TypeId} (ht : P.underlying T = some (.slice e)) (ht' : P.underlying T' = some d') (hd : ∀ k, d' ≠ .int k) (hi : P.info? e = some i)
    (hn : (Builtin.lenOf x).run P w = .ok n w) (hf : (Builtin.firstCells i.size n x).run P w = .ok news.toArray w) (hroom : sLen + n ≤ sCap) (hb : w.heap[b]? = some (.cells cs Tb (0, 0))) (hfit : off + sLen * i.size + news.length ≤ cs.size)
    (h1 : ∀ u ∈ news, u.oneCell' = true) : (Builtin.append_ #[T, T'] ty #[.slice (some ⟨b, off, none⟩) sLen sCap, x]).run P w = .ok (.slice (some ⟨b, off, none⟩) (sLen + n) sCap) (w.setRow b (spl cs (off + sLen * i.size) news)) := by
  have hst := run_storeCells_at P b (off + sLen * i.size) Tb news 0 cs w hb (by simpa using hfit) h1
  simp only [Nat.add_zero] at hst
  have hzz : (d' matches .int _) = false := by cases d' <;> first | rfl | exact absurd rfl (hd _)
  simp [Builtin.append_, run_underlying ht, run_underlying ht', sizeOf, typeInfo, hi, hn, hroom, hf, add_off, hst, spl, hzz]
theorem run_append_none {ad : Option Addr} {x : Value} (ht : P.underlying T = some (.slice e)) (ht' : P.underlying T' = some d') (hd : ∀ k, d' ≠ .int k) (hi : P.info? e = some i)
    (hn : (Builtin.lenOf x).run P w = .ok 0 w) (hf : (Builtin.firstCells i.size 0 x).run P w = .ok #[] w) : (Builtin.append_ #[T, T'] ty #[.slice ad 0 0, x]).run P w = .ok (.slice ad 0 0) w := by
  have hzz : (d' matches .int _) = false := by cases d' <;> first | rfl | exact absurd rfl (hd _)
  cases ad with
  | none => simp [Builtin.append_, run_underlying ht, run_underlying ht', sizeOf, typeInfo, hi, hn, hf, hzz]
  | some ad => simp [Builtin.append_, run_underlying ht, run_underlying ht', sizeOf, typeInfo, hi, hn, hf, storeCells, hzz]
theorem run_append_grow' {ad : Option Addr} {sLen sCap n : Nat} {x : Value} {olds news : List Value} (ht : P.underlying T = some (.slice e)) (ht' : P.underlying T' = some d') (hd : ∀ k, d' ≠ .int k) (hi : P.info? e = some i) (hz : i.zero = some z)
    (hn : (Builtin.lenOf x).run P w = .ok n w) (hf : (Builtin.firstCells i.size n x).run P w.drew = .ok news.toArray w.drew) (ho : (Builtin.firstCells i.size sLen (.slice ad sLen sCap)).run P w.drew = .ok olds.toArray w.drew) (hg : sCap < sLen + n)
    (h63 : sLen + n ≤ 9223372036854775807) (hfit : (sLen + n) * i.bytes ≤ 140737488355328) :
    (Builtin.append_ #[T, T'] ty #[.slice ad sLen sCap, x]).run P w =
      .ok (.slice (some ⟨w.heap.size, 0, none⟩) (sLen + n) (grownCap w (sLen + n) sCap e)) (w.drew.alloc (.cells (olds.toArray ++ news.toArray ++ Builtin.zeroCells z.cells (grownCap w (sLen + n) sCap e - (sLen + n))) e)) := by
  have hn' : ¬ (sLen + n ≤ sCap) := by omega
  have h63' : ¬ (9223372036854775807 < ((sLen : Int) + (n : Int))) := by omega
  have h48' : ¬ (281474976710656 < Builtin.nextslicecap (sLen + n) sCap * i.bytes) := by have := growslice_fits hg hfit; omega
  have hzz : (d' matches .int _) = false := by cases d' <;> first | rfl | exact absurd rfl (hd _)
  simp [Builtin.append_, run_underlying ht, run_underlying ht', sizeOf, typeInfo, zeroValue, hi, hz, hn, hn', h63', h48', Question.forced, hf, ho, newRow, grownCap, hzz]
  congr 2
  apply Array.ext'
  simp [List.append_assoc]

theorem Chg.drewA (w : World) (ob : Obj) (B : BS) : Chg w (w.drew.alloc ob) B :=
  ⟨rfl, rfl, rfl, by simp, fun k hk _ => by simp only [World.alloc, World.drew, Array.getElem?_push]; rw [if_neg (by omega)]⟩

theorem Apart.chg {S : BS} {F : Nat → BS} {Fy : BS} {w' : World} (h : Apart E w S F Fy) (c : w.heap.size ≤ w'.heap.size) : Apart E w' S F Fy := ⟨fun k hk => ⟨Nat.lt_of_lt_of_le (h.1 k hk).1 c, (h.1 k hk).2⟩, h.2⟩

/-- A root for a block that stands apart. -/
theorem Good.addApart {G : List Gh} {S : BS} {F : Nat → BS} (hg : Good E G h w S F) {Fn : BS} (ha : Apart E w S F Fn) (g : Gh) (rt : Root) (hrt : RootR (G ++ [g]) w E.Ro S rt g Fn) : ∃ F', Good E (G ++ [g]) (h ++ [rt]) w S F' ∧ (G ++ [g])[h.length]? = some g :=
  ⟨_, hg.addRoot g rt Fn hrt (fun r k hr hk => ha.2 r k hr hk) (fun k hk => ha.1 k hk), by rw [List.getElem?_append_right (by rw [hg.len]; exact Nat.le_refl _)]; simp [hg.len]⟩

/-- Where only blocks that stand apart have changed. -/
theorem Good.chgA {G : List Gh} {S : BS} {F : Nat → BS} (hg : Good E G h w S F) {B : BS} (ha : Apart E w S F B) {w' : World} (c : Chg w w' B) {G' : List Gh} (hG : ∀ (i : Nat) (g : Gh), G[i]? = some g → G'[i]? = some g) : Good E G h w' S F ∧ Ext E G w S G' w' S := by
  have hro : ∀ k, k < E.w0.heap.size → ¬ E.O k → ¬ B k := fun k h1 h2 hb => by
    rcases (ha.1 k hb).2.1 with h | h
    · exact h2 h
    · omega
  have e : ∀ {G' : List Gh}, (∀ (i : Nat) (g : Gh), G[i]? = some g → G'[i]? = some g) → Ext E G w S G' w' S := fun hG => ⟨hG, fun _ h => h, fun k hk => c.heap k (hg.sb k hk) (fun hb => (ha.1 k hb).2.2 hk), fun k hk => c.heap k (hg.ro_lt hk) (hro k (hg.rok k hk).1 (hg.rok k hk).2)⟩
  refine ⟨?_, e hG⟩
  constructor
  · exact hg.len
  · exact fun i rt g h1 h2 => (hg.root i rt g h1 h2).ext (e fun _ _ h => h) (fun k hk => c.heap k (hg.own i k hk).1 (ha.2 i k hk))
  · exact hg.dis
  · exact hg.out
  · exact fun i k hk => ⟨Nat.lt_of_lt_of_le (hg.own i k hk).1 c.size, (hg.own i k hk).2⟩
  · exact fun k hk => Nat.lt_of_lt_of_le (hg.sb k hk) c.size
  · exact hg.s0
  · exact hg.sn
  · exact Nat.le_trans hg.size c.size
  · exact c.os.trans hg.os
  · exact c.tape.trans hg.tape
  · exact c.output.trans hg.output
  · exact fun k h1 h2 => (c.heap k (Nat.lt_of_lt_of_le h1 hg.size) (hro k h1 h2)).trans (hg.fr k h1 h2)
  · exact hg.rok
  · exact hg.gp
  · exact fun k hk => ((e fun _ _ h => h).ss k (hg.s0 k hk)).trans (hg.sf k hk)

theorem s_append {c : Call} (hC : CtxOk P C) (ho : o.op = .call c) (hcal : c.callee = .builtin .append) : OpS P C o := by
  intro E D t h a w k next Q hp ⟨G, S, F, hg, ht, hd⟩ hpan hc
  unfold opP at hp
  simp only [ho, mapK_ev, hcal] at hp
  have hargs := argsRel ht c.args.toList
  obtain ⟨T, hT, hp⟩ := on_spec hp
  obtain ⟨ti, hti, hp⟩ := on_spec hp
  obtain ⟨info, d, z0, h1, h2, h3, h4, h5, h6, _⟩ := hC.tab _ _ hti
  split at hp
  · rename_i e es xa xb hk hl
    obtain ⟨T', hT', hp⟩ := on_spec hp
    obtain ⟨i', hi', hp⟩ := on_spec hp
    obtain ⟨ei, hei, hp⟩ := on_spec hp
    obtain ⟨info', d', z', a1, a2, a3, a4, a5, a6, _⟩ := hC.tab _ _ hi'
    obtain ⟨ie, de, z, b1, b2, b3, b4, b5, b6, b7, b8, b9, b10, b11⟩ := hC.tab _ _ hei
    have hboth : (∀ k, d' ≠ .int k) ∧ appendP ei es xa xb h fun a h => putK t o.dst a fun t => k t h := by
      clear hargs
      split at hp
      · rename_i hk'
        rw [hk'] at a6
        exact ⟨fun k hk => by subst hk; exact a6, hp⟩
      · rename_i hk'
        rw [hk'] at a6
        exact ⟨fun k hk => by subst hk; exact a6, hp⟩
      · exact hp.elim
    obtain ⟨hdint, hpa⟩ := hboth
    clear hp
    rw [hk] at h6
    cases d <;> simp only [KindOk] at h6
    rename_i elem
    obtain ⟨he, ie', c1, c2⟩ := h6
    subst he
    rw [b1] at c1; cases c1
    have hes : 0 < es := by omega
    obtain ⟨pa, pb, hpab⟩ : ∃ pa pb, c.args.toList = [pa, pb] := by
      have : (c.args.toList.map (evF t)).length = 2 := by rw [hl]; rfl
      simp at this
      rcases hq : c.args.toList with _ | ⟨pa, _ | ⟨pb, _ | ⟨_, _⟩⟩⟩ <;> rw [← Array.length_toList] at this <;> rw [hq] at this <;> simp at this
      exact ⟨pa, pb, rfl⟩
    rw [hpab] at hl
    simp only [List.map_cons, List.map_nil] at hl
    have hva := evF_spec ht pa
    have hvb := evF_spec ht pb
    have hl1 : evF t pa = xa := (List.cons.inj hl).1
    have hl2 : evF t pb = xb := (List.cons.inj (List.cons.inj hl).2).1
    rw [hl1] at hva
    rw [hl2] at hvb
    have hargsA : c.args = #[pa, pb] := by apply Array.ext'; simp [hpab]
    -- the two slices
    obtain ⟨L, h', F1, vs, Fy, hpb, st1, src, ap1⟩ := movK_spec (P := P) hg hes hvb hpa
    obtain ⟨l, h'', F2, Fb, hpc, st2, bas, ap2, hFb⟩ := baseK_spec st1.good hva hpb
    obtain ⟨hby, hmx, hpd⟩ := hpc
    have hp := newK_spec hpd
    have hg2 := st2.good
    have ap1' := st2.apart ap1
    have hdis : ∀ k, Fb k → ¬ Fy k := fun k hk hy => by obtain ⟨r, hr⟩ := hFb k hk; exact ap1.2 r k hr hy
    obtain ⟨bl, hbas⟩ := bas
    have hall : ∀ el ∈ l ++ L, el.length = es := fun el hel => (List.mem_append.1 hel).elim (bl el) (src.el el)
    have hflat : (l ++ L).flatten = l.flatten ++ L.flatten := by simp
    have hln := flat_length _ _ bl
    have hLn := flat_length _ _ src.el
    have argt : c.argTypes[0]? = some T := hT
    have fin : ∀ (v' : Value) (w' : World), (Builtin.append_ c.argTypes o.type #[a.eval pa, a.eval pb]).run P w = .ok v' w' → (∃ G' F', Good E G' (h'' ++ [.lst es (l ++ L)]) w' S F' ∧ Ext E G w S G' w' S ∧ VR G' w' E.Ro S (.slc h''.length 0 (l.length + L.length) false) v') → o.wp P a w next Q := by
      rintro v' w' hr ⟨G', F', hg', he, hv'⟩
      refine wp_val (v := v') (w' := w') ?_ (rel_put hg' (ht.ext he) hd hv' hp hc)
      simp [execOp, ho, resolve, hcal, invoke, builtin, hargsA, hr]
    have happ : ∀ (s x : Value), Builtin.append_ c.argTypes o.type #[s, x] = Builtin.append_ #[T, T'] o.type #[s, x] := by
      intro s x
      unfold Builtin.append_
      simp [hT, hT']
    -- growing
    have grow : ∀ (ad : Option Addr) (sCap : Nat) (olds : List Value) (Fo : BS), a.eval pa = .slice ad l.length sCap → sCap < l.length + L.length → (Builtin.firstCells ie.size l.length (.slice ad l.length sCap)).run P w.drew = .ok olds.toArray w.drew → CsR G w E.Ro S l.flatten olds Fo →
        Apart E w S F2 Fo → (∀ k, Fo k → ¬ Fy k) → o.wp P a w next Q := by
      intro ad sCap olds Fo hv hlt hold hcr hapo hd2
      have hcs := hcr.append src.cells hd2
      rw [← hflat] at hcs
      obtain ⟨cells, hcells⟩ : ∃ cells : Array Value, cells = olds.toArray ++ vs.toArray ++ Builtin.zeroCells z.cells (grownCap w (l.length + L.length) sCap elem - (l.length + L.length)) := ⟨_, rfl⟩
      have hge := grownCap_ge w (l.length + L.length) sCap elem
      have holds : olds.length = l.length * es := by rw [← hln]; exact hcr.choose_spec.1.symm
      have hsize : cells.size = grownCap w (l.length + L.length) sCap elem * es := by
        rw [hcells]
        simp only [Array.size_append, List.size_toArray, size_zeroCells, holds, src.len, b8]
        rw [show ei.size = es by omega, ← Nat.add_mul, ← Nat.add_mul]
        congr 1; omega
      have hrun := run_append_grow' (P := P) (w := w) (T := T) (T' := T') (ty := o.type) (x := a.eval pb) (olds := olds) (news := vs) (ad := ad) (sLen := l.length) (sCap := sCap) (n := L.length) h4 a4 hdint b1 b7 (src.num w (Chg.refl w _)) (by
        have := src.get w.drew (Chg.drewN w 1 _) L.length (Nat.le_refl _)
        rw [List.take_of_length_le (by rw [src.len]; exact Nat.le_refl _)] at this
        rw [show ie.size = es by omega]; exact this) hold hlt (by omega) (by rw [b3]; exact hby)
      rw [← hcells] at hrun
      refine fin _ _ (by rw [happ, hv]; exact hrun) ?_
      have hchg := Chg.drewA w (.cells cells elem) (fun _ => False)
      have hg3 := hg2.chg hchg
      have hnew : (w.drew.alloc (.cells cells elem)).heap[w.heap.size]? = some (.cells cells elem (0, 0)) := by
        show (w.heap.push _)[w.heap.size]? = _
        simp
      have hsz3 : (w.drew.alloc (.cells cells elem)).heap.size = w.heap.size + 1 := by simp
      have hfresh : ∀ k, (∃ r, F2 r k) ∨ Fo k ∨ Fy k → k < w.heap.size := by
        rintro k (⟨r, h⟩ | h | h)
        · exact (hg2.own r k h).1
        · exact (hapo.1 k h).1
        · exact (ap1'.1 k h).1
      have he3 := hg2.ext_none hchg (pre_append G ⟨some w.heap.size, es, cells.size⟩)
      have hcs3 : CsR (G ++ [⟨some w.heap.size, es, cells.size⟩]) (w.drew.alloc (.cells cells elem)) E.Ro S (l ++ L).flatten (olds ++ vs) (fun k => Fo k ∨ Fy k) := hcs.ext he3 (fun k hk => hchg.heap k (hfresh k (.inr hk)) (fun h => h))
      have hlen3 : (l ++ L).flatten.length = (olds ++ vs).length := hcs3.choose_spec.1
      have hblk := hcs3.blk (b := w.heap.size) (cs := cells) (fun j hj => by
        rw [hcells, Array.getElem?_append, if_pos (by simp; rw [hlen3] at hj; simpa using hj)]
        simp) (fun hk => by have := hfresh _ (.inr hk); omega)
      have hap3 : Apart E (w.drew.alloc (.cells cells elem)) S F2 (fun k => k = w.heap.size ∨ Fo k ∨ Fy k) := by
        refine ⟨fun k hk => ?_, fun r k hr hk => ?_⟩
        · rcases hk with rfl | hk | hk
          · exact ⟨by omega, .inr hg2.size, fun hs => by have := hg2.sb _ hs; omega⟩
          · have := hapo.1 k hk; exact ⟨by omega, this.2⟩
          · have := ap1'.1 k hk; exact ⟨by omega, this.2⟩
        · rcases hk with rfl | hk | hk
          · have := (hg2.own r _ hr).1; omega
          · exact hapo.2 r k hr hk
          · exact ap1'.2 r k hr hk
      obtain ⟨F', hg4, hgl⟩ := hg3.addApart hap3 ⟨some w.heap.size, es, cells.size⟩ (.lst es (l ++ L))
        ⟨rfl, hall, .inr ⟨w.heap.size, cells, elem, rfl, hnew, rfl, by rw [flat_length _ _ hall, hsize, List.length_append]; exact Nat.mul_le_mul_right _ hge, hblk⟩⟩
      exact ⟨_, F', hg4, he3, .slc _ _ _ _ _ _ _ hgl hge (by simp) (.inr ⟨w.heap.size, rfl, by rw [Nat.zero_mul], by rw [Nat.zero_add, hsize]; exact Nat.le_refl _⟩)⟩
    rcases hbas with ⟨ad, hv, rfl⟩ | ⟨b, cp, cs, Tb, hv, q1, q2, q3, q4⟩
    · by_cases h0 : L = []
      · subst h0
        refine fin (.slice ad 0 0) w (by
          rw [happ, hv]
          exact run_append_none h4 a4 hdint b1 (by simpa using src.num w (Chg.refl w _)) (by simpa using src.get w (Chg.refl w _) 0 (Nat.le_refl _) |> fun h => by rw [show ie.size = es by omega]; simpa using h)) ?_
        obtain ⟨F', hg4, hgl⟩ := hg2.addApart (Fn := fun _ => False) apart0 ⟨none, es, 0⟩ (.lst es []) ⟨rfl, by simp, .inl ⟨rfl, rfl, fun _ h => h⟩⟩
        exact ⟨_, F', hg4, hg2.ext_none (Chg.refl w _) (pre_append G _), .slc _ _ _ _ _ _ _ hgl (Nat.le_refl _) (by simp) (.inl rfl)⟩
      · exact grow ad 0 [] (fun _ => False) hv (by have := List.length_pos_iff.2 h0; simp; omega) (by simpa using run_firstCells0) CsR.nil apart0 (fun _ h => h.elim)
    · by_cases hroom : l.length + L.length ≤ cp
      · have hfit : 0 + l.length * ie.size + vs.length ≤ cs.size := by
          rw [src.len, show ie.size = es by omega, Nat.zero_add, ← Nat.add_mul]
          exact Nat.le_trans (Nat.mul_le_mul_right _ hroom) q3
        have hrun := run_append_some (P := P) (w := w) (T := T) (T' := T') (ty := o.type) (x := a.eval pb) (news := vs) (b := b) (off := 0) (sLen := l.length) (sCap := cp) (n := L.length) h4 a4 hdint b1 (src.num w (Chg.refl w _)) (by
          have := src.get w (Chg.refl w _) L.length (Nat.le_refl _)
          rw [List.take_of_length_le (by rw [src.len]; exact Nat.le_refl _)] at this
          rw [show ie.size = es by omega]; exact this) hroom q1 hfit src.cells.ones
        rw [show 0 + l.length * ie.size = l.length * es by rw [Nat.zero_add, show ie.size = es by omega]] at hrun hfit
        refine fin _ _ (by rw [happ, hv]; exact hrun) ?_
        obtain ⟨Fo, d1, d2, d3⟩ := blk_csR q4
        have hFbb : Fb b := (d2 b).2 (.inl rfl)
        have hchg := Chg.setRow w b (spl cs (l.length * es) vs) Fb hFbb
        have hold : ∀ k, k ≠ b → (w.setRow b (spl cs (l.length * es) vs)).heap[k]? = w.heap[k]? := fun k hk => setRow_other w b k _ hk
        have hszr : (w.setRow b (spl cs (l.length * es) vs)).heap.size = w.heap.size := by simp
        obtain ⟨hg3, hext⟩ := hg2.chgA ap2 hchg (G' := G ++ [⟨some b, es, cs.size⟩]) (pre_append G _)
        have hcs := d1.append src.cells (fun k hk hy => hdis k ((d2 k).2 (.inr hk)) hy)
        rw [← hflat] at hcs
        have hby' : ¬ Fy b := hdis b hFbb
        have hcs3 : CsR (G ++ [⟨some b, es, cs.size⟩]) (w.setRow b (spl cs (l.length * es) vs)) E.Ro S (l ++ L).flatten (segV cs 0 l.flatten.length ++ vs) (fun k => Fo k ∨ Fy k) := hcs.ext hext (fun k hk => hold k (fun hkb => by
          subst hkb
          rcases hk with hk | hk
          · exact d3 hk
          · exact hby' hk))
        have hlen3 : (l ++ L).flatten.length = l.flatten.length + vs.length := by rw [hflat, List.length_append, hLn, src.len]
        have hblk := hcs3.blk (b := b) (cs := spl cs (l.length * es) vs) (fun j hj => by
          rw [spl_get hfit, List.getElem?_append, segV_length]
          rw [hlen3, hln] at hj
          by_cases c1 : j < l.length * es
          · rw [if_neg (by omega), if_pos (by rw [hln]; exact c1)]
            have hjs : j < cs.size := by omega
            simp [segV, hln, c1, Array.getD_eq_getD_getElem?, hjs]
          · rw [if_pos (by omega), if_neg (by rw [hln]; exact c1), hln]) (fun hk => by
            rcases hk with hk | hk
            · exact d3 hk
            · exact hby' hk)
        have hheap : (w.setRow b (spl cs (l.length * es) vs)).heap[b]? = some (.cells (spl cs (l.length * es) vs) Tb (0, 0)) := setRow_heap w b cs _ Tb (0, 0) q1
        have hss := spl_size hfit
        have hap3 : Apart E (w.setRow b (spl cs (l.length * es) vs)) S F2 (fun k => k = b ∨ Fo k ∨ Fy k) := by
          refine ⟨fun k hk => ?_, fun r k hr hk => ?_⟩
          · rw [hszr]
            rcases hk with rfl | hk | hk
            · exact ap2.1 _ hFbb
            · exact ap2.1 k ((d2 k).2 (.inr hk))
            · exact ap1'.1 k hk
          · rcases hk with rfl | hk | hk
            · exact ap2.2 r _ hr hFbb
            · exact ap2.2 r k hr ((d2 k).2 (.inr hk))
            · exact ap1'.2 r k hr hk
        obtain ⟨F', hg4, hgl⟩ := hg3.addApart hap3 ⟨some b, es, cs.size⟩ (.lst es (l ++ L))
          ⟨rfl, hall, .inr ⟨b, _, Tb, rfl, hheap, hss, by rw [hlen3, hss, hln]; omega, hblk⟩⟩
        exact ⟨_, F', hg4, hext, .slc _ _ _ _ _ _ _ hgl hroom (by simp) (.inr ⟨b, rfl, by rw [Nat.zero_mul], by rw [Nat.zero_add]; exact q3⟩)⟩
      · exact grow _ cp (segV cs 0 l.flatten.length) _ hv (by omega) (by
          rw [hln, show ie.size = es by omega]
          have : l.length * es ≤ cs.size := Nat.le_trans (Nat.mul_le_mul_right _ q2) q3
          exact run_firstCells_blk (w := w.drew) (T := Tb) (fz := (0, 0)) (show w.heap[b]? = _ from q1) (by omega)) (blk_csR q4).choose_spec.1 ⟨fun k hk => ap2.1 k (((blk_csR q4).choose_spec.2.1 k).2 (.inr hk)), fun r k hr hk => ap2.2 r k hr (((blk_csR q4).choose_spec.2.1 k).2 (.inr hk))⟩ (fun k hk => hdis k (((blk_csR q4).choose_spec.2.1 k).2 (.inr hk)))
  · exact hp.elim

/-! ### Copy, clear -/

theorem set_self {α : Type} {l : List α} {r : Nat} {x : α} (h : l[r]? = some x) : l.set r x = l := by
  apply List.ext_getElem?
  intro i
  rw [List.getElem?_set]
  split
  · rename_i hi
    subst hi
    rw [if_pos (List.getElem?_eq_some_iff.1 h).1, h]
  · rfl
theorem flat_take (s : Nat) : ∀ (n : Nat) (l : List (List AV)), (∀ e ∈ l, e.length = s) → (l.take n).flatten = l.flatten.take (n * s)
  | 0, l, _ => by simp
  | n + 1, [], _ => by simp
  | n + 1, e :: l, h => by
    have := h e (by simp)
    rw [List.take_succ_cons, List.flatten_cons, List.flatten_cons, flat_take s n l (fun x hx => h x (by simp [hx])), List.take_append, this, Nat.succ_mul, Nat.add_sub_cancel, List.take_of_length_le (l := e) (by omega)]
theorem lst_lay' {s : Nat} {l L : List (List AV)} {o : Nat} (hl : ∀ x ∈ l, x.length = s) (hL : ∀ x ∈ L, x.length = s) (hc : o + L.length ≤ l.length) :
    Flat (.lst s (l.take o ++ L ++ l.drop (o + L.length))) (lay l.flatten (o * s) L.flatten) ∧ o * s + L.flatten.length ≤ l.flatten.length := by
  have h1 : (l.take o).flatten.length = o * s := by
    rw [flat_length s _ (fun x hx => hl x (List.mem_of_mem_take hx)), List.length_take, Nat.min_eq_left (by omega)]
  have h2 := flat_length s _ hL
  have hle : o * s + L.length * s ≤ l.length * s := by rw [← Nat.add_mul]; exact Nat.mul_le_mul_right _ hc
  have hll := flat_length s _ hl
  have e1 : l.flatten = (l.take o).flatten ++ (l.drop o).flatten := by rw [← List.flatten_append, List.take_append_drop]
  have e2 : (l.drop o).flatten = ((l.drop o).take L.length).flatten ++ (l.drop (o + L.length)).flatten := by rw [← List.flatten_append, ← List.drop_drop, List.take_append_drop]
  have h3 : ((l.drop o).take L.length).flatten.length = L.length * s := by
    rw [flat_length s _ (fun x hx => hl x (List.mem_of_mem_drop (List.mem_of_mem_take hx))), List.length_take, List.length_drop, Nat.min_eq_left (by omega)]
  refine ⟨⟨?_, fun x hx => ?_⟩, by omega⟩
  · unfold lay
    rw [List.flatten_append, List.flatten_append]
    have t1 : l.flatten.take (o * s) = (l.take o).flatten := by rw [e1, ← h1, List.take_left']; rfl
    have t2 : l.flatten.drop (o * s + L.flatten.length) = (l.drop (o + L.length)).flatten := by
      rw [h2, ← List.drop_drop, e1, ← h1, List.drop_left' rfl, e2, ← h3, List.drop_left' rfl]
    rw [t1, t2]
  · rcases List.mem_append.1 hx with hx | hx
    · rcases List.mem_append.1 hx with hx | hx
      · exact hl x (List.mem_of_mem_take hx)
      · exact hL x hx
    · exact hl x (List.mem_of_mem_drop hx)

theorem s_copy {c : Call} (hC : CtxOk P C) (ho : o.op = .call c) (hcal : c.callee = .builtin .copy) : OpS P C o := by
  intro E D t h a w k next Q hp ⟨G, S, F, hg, ht, hd⟩ hpan hc
  unfold opP at hp
  simp only [ho, mapK_ev, hcal] at hp
  obtain ⟨T, hT, hp⟩ := on_spec hp
  obtain ⟨ti, hti, hp⟩ := on_spec hp
  obtain ⟨info, d, z0, h1, h2, h3, h4, h5, h6, _⟩ := hC.tab _ _ hti
  split at hp
  · rename_i e es xa xb hk hl
    obtain ⟨ei, hei, hpa⟩ := on_spec hp
    obtain ⟨ie, de, z, b1, b2, b3, b4, b5, b6, b7, b8, b9, b10, b11⟩ := hC.tab _ _ hei
    rw [hk] at h6
    cases d <;> simp only [KindOk] at h6
    rename_i elem
    obtain ⟨he, ie', c1, c2⟩ := h6
    subst he
    rw [b1] at c1; cases c1
    have hes : 0 < es := by omega
    obtain ⟨pa, pb, hpab⟩ : ∃ pa pb, c.args.toList = [pa, pb] := by
      have : (c.args.toList.map (evF t)).length = 2 := by rw [hl]; rfl
      simp at this
      rcases hq : c.args.toList with _ | ⟨pa, _ | ⟨pb, _ | ⟨_, _⟩⟩⟩ <;> rw [← Array.length_toList] at this <;> rw [hq] at this <;> simp at this
      exact ⟨pa, pb, rfl⟩
    rw [hpab] at hl
    simp only [List.map_cons, List.map_nil] at hl
    have hva := evF_spec ht pa
    have hvb := evF_spec ht pb
    rw [(List.cons.inj hl).1] at hva
    rw [(List.cons.inj (List.cons.inj hl).2).1] at hvb
    have hargsA : c.args = #[pa, pb] := by apply Array.ext'; simp [hpab]
    clear hp
    unfold copyP at hpa
    split at hpa
    · rename_i r off n zz
      obtain ⟨rt, hr, hpb⟩ := rootK_spec hpa
      clear hpa
      cases rt with
      | lst s l =>
        simp only at hpb
        split at hpb
        · rename_i hs
          have hs : s = es := by simpa using hs
          subst hs
          obtain ⟨hon, hpc⟩ := hpb
          obtain ⟨L, vs, hpd, src⟩ := srcK_spec (P := P) hg hes hvb hpc
          rw [setK_eq] at hpd
          obtain ⟨g, ad, cp, p1, p2, p3, p4, p5⟩ := hva.slc_inv
          obtain ⟨q1, q2, q3⟩ := hg.root r _ g hr p1
          have hnum := src.num w (Chg.refl w _)
          have hget := src.get w (Chg.refl w _) (min L.length n) (Nat.min_le_left _ _)
          have fin : ∀ w', (Builtin.copy_ c.argTypes o.type #[a.eval pa, a.eval pb]).run P w = .ok (.int .i64 (min L.length n : Nat)) w' → (∃ F', Good E G (h.set r (.lst s (l.take off ++ L.take n ++ l.drop (off + min L.length n)))) w' S F' ∧ Ext E G w S G w' S) → o.wp P a w next Q := by
            rintro w' hrun ⟨F', hg', he⟩
            refine wp_val (v := .int .i64 (min L.length n : Nat)) (w' := w') ?_ (rel_put hg' (ht.ext he) hd (vr_int _ _ _ _ _ _) hpd hc)
            simp [execOp, ho, resolve, hcal, invoke, builtin, hargsA, hrun]
          by_cases h0 : min L.length n = 0
          · refine fin w ?_ ⟨F, ?_, Ext.refl _ _ _ _⟩
            · rw [h0] at hget ⊢
              simp only [Nat.zero_mul, List.take_zero] at hget
              cases ad with
              | none => simp [Builtin.copy_, hT, p2, run_underlying h4, hnum, sizeOf, typeInfo, b1, c2, h0, hget, goInt, Nat.min_def] <;> simp_all [Nat.min_def]
              | some ad => simp [Builtin.copy_, hT, p2, run_underlying h4, hnum, sizeOf, typeInfo, b1, c2, h0, hget, goInt, storeCells, Nat.min_def] <;> simp_all [Nat.min_def, storeCells]
            · have : l.take off ++ L.take n ++ l.drop (off + min L.length n) = l := by
                have : L.take n = [] := by
                  rw [List.take_eq_nil_iff]
                  rcases Nat.min_eq_zero_iff.1 h0 with h | h
                  · exact .inr (List.length_eq_zero_iff.1 h)
                  · exact .inl h
                rw [this, h0]; simp
              rw [this]
              rw [set_self hr]
              exact hg
          · rcases p5 with p5 | ⟨b, p5, p6, p7⟩
            · omega
            subst p6
            have hm : (L.take n).length = min L.length n := by rw [List.length_take, Nat.min_comm]
            obtain ⟨l1, l2⟩ := lst_lay' (o := off) q2 (fun x hx => src.el x (List.mem_of_mem_take hx) : ∀ x ∈ L.take n, x.length = s) (by rw [hm]; omega)
            rw [hm] at l1
            have hfl := flat_length s _ (fun x hx => src.el x (List.mem_of_mem_take hx) : ∀ x ∈ L.take n, x.length = s)
            rw [hm] at hfl
            have hpre : (L.take n).flatten = L.flatten.take (min L.length n * s) := by
              rw [← flat_take s _ _ src.el, Nat.min_comm, ← List.take_take, List.take_length]
            obtain ⟨Fz, z1, z2⟩ := src.cells.take (min L.length n * s)
            rw [← hpre] at z1
            obtain ⟨F', b', ca, T2, r1, r2, r3, r4, r5⟩ := write_core hg hr p1 (show Flat (.lst s l) l.flatten from ⟨rfl, q2⟩) l2 (by
              rw [flat_length s _ q2]
              exact Nat.mul_pos (by omega) hes) (show SameK (.lst s l) (.lst s _) from rfl) l1 z1 ⟨fun k hk => (z2 k hk).elim, fun _ k _ hk => (z2 k hk).elim⟩
            rw [p5] at r1; cases r1
            refine fin _ ?_ ⟨F', r4, r5⟩
            have hvl : (vs.take (min L.length n * s)).length = min L.length n * s := by
              rw [List.length_take, src.len]
              exact Nat.min_eq_left (Nat.mul_le_mul_right _ (Nat.min_le_left _ _))
            have hst := run_storeCells_at P b (off * s) T2 (vs.take (min L.length n * s)) 0 ca w r2 (by rw [hvl]; omega) (fun u hu => src.cells.ones u (List.mem_of_mem_take hu))
            simp only [Nat.add_zero] at hst
            rw [q1] at p2
            have hget2 : (Builtin.firstCells s (Nat.min L.length n) (a.eval pb)).run P w = .ok (vs.take (min L.length n * s)).toArray w := hget
            simp [Builtin.copy_, hT, p2, run_underlying h4, hnum, run_sizeOf' b1, c2, hget2, hst, spl, goInt]
        · exact hpb.elim
      | _ => exact hpb.elim
    · exact hpa.elim
  · exact hp.elim
end

end Go.Proofs.Ytegcfogbdgmajaa.Ab
