/- Slices and strings: elements copied out, appended, copied in, cleared; stores. Each operation is sound. No condition. -/
import Derived.Test.YtegcfogbdgmajaaAbOps3
import Derived.Laws.Append
import Derived.Laws.BytesArg
import Derived.Laws.BytesString
import Derived.Lib.ConvBytes
namespace Go.Proofs.Ytegcfogbdgmajaa.Ab
set_option linter.unusedVariables false
set_option linter.unusedSimpArgs false

section
variable {P : Program} {C : Ctx} {E : Env} {D : List Deferred × Nat} {o : Oper} {t : TS} {h : HP} {a : Act} {w : World} {k : TS → HP → Prop} {next : Act → World → Prop} {Q : Exit → Act → World → Prop}

/-! ### A part of a root is written, with what it owns -/

theorem blkR_put {G Ro S} {fl : List AV} {b : Nat} {cs cs' : Array Value} {F Fy : BS} (h : BlkR G w Ro S fl b cs F) {o : Nat} {xs : List AV} {vs : List Value} (hx : CsR G w Ro S xs vs Fy) (hd : ∀ k, F k → ¬ Fy k) (ho : o + xs.length ≤ fl.length)
    (hcs : ∀ j, cs'[j]? = if o ≤ j ∧ j < o + vs.length then vs[j - o]? else cs[j]?) :
    ∃ F', BlkR G w Ro S (lay fl o xs) b cs' F' ∧ ∀ k, F' k → F k ∨ Fy k := by
  obtain ⟨cv, Fc, h1, h2, h3, h4, h5⟩ := h
  obtain ⟨Fx, x1, x2, x3, x4⟩ := hx
  let cv' : Nat → Value := fun j => if o ≤ j ∧ j < o + xs.length then vs.getD (j - o) undef else cv j
  let Fc' : Nat → BS := fun j => if o ≤ j ∧ j < o + xs.length then Fx (j - o) else Fc j
  have hin : ∀ j k, j < fl.length → Fc' j k → (o ≤ j ∧ j < o + xs.length ∧ Fx (j - o) k ∧ Fy k) ∨ (¬ (o ≤ j ∧ j < o + xs.length) ∧ Fc j k ∧ F k) := by
    intro j k hj hk
    simp only [Fc'] at hk
    split at hk
    · rename_i hc
      exact .inl ⟨hc.1, hc.2, hk, (x4 k).2 ⟨_, by omega, hk⟩⟩
    · rename_i hc
      exact .inr ⟨hc, hk, (h5 k).2 (.inr ⟨j, hj, hk⟩)⟩
  refine ⟨fun k => k = b ∨ ∃ j, j < (lay fl o xs).length ∧ Fc' j k, ⟨cv', Fc', ?_, ?_, ?_, ?_, fun _ => Iff.rfl⟩, ?_⟩
  · intro j hj
    rw [lay_length ho] at hj
    rw [hcs]
    by_cases hc : o ≤ j ∧ j < o + xs.length
    · simp only [cv', if_pos hc]
      rw [if_pos (by omega)]
      simp [show j - o < vs.length by omega]
    · simp only [cv', if_neg hc]
      rw [if_neg (by omega)]
      exact h1 j hj
  · intro j a hj
    rw [lay_get ho] at hj
    by_cases hc : o ≤ j ∧ j < o + xs.length
    · simp only [cv', Fc', if_pos hc] at hj ⊢
      exact x2 _ a hj
    · simp only [cv', Fc', if_neg hc] at hj ⊢
      exact h2 j a hj
  · intro j j' k hj hj' hk hk'
    rw [lay_length ho] at hj hj'
    rcases hin j k hj hk with ⟨a1, a2, a3, a4⟩ | ⟨a1, a2, a3⟩ <;> rcases hin j' k hj' hk' with ⟨b1, b2, b3, b4⟩ | ⟨b1, b2, b3⟩
    · have := x3 _ _ k (by omega) (by omega) a3 b3
      omega
    · exact absurd a4 (hd k b3)
    · exact absurd b4 (hd k a3)
    · exact h3 j j' k hj hj' a2 b2
  · intro j k hj hk hkb
    rw [lay_length ho] at hj
    rcases hin j k hj hk with ⟨a1, a2, a3, a4⟩ | ⟨a1, a2, a3⟩
    · exact hd k ((h5 k).2 (.inl hkb)) a4
    · exact h4 j k hj a2 hkb
  · rintro k (rfl | ⟨j, hj, hk⟩)
    · exact .inl ((h5 _).2 (.inl rfl))
    · rw [lay_length ho] at hj
      rcases hin j k hj hk with ⟨a1, a2, a3, a4⟩ | ⟨a1, a2, a3⟩
      · exact .inr a4
      · exact .inl a3

/-- Cells of a block, spliced. -/
def spl (ca : Array Value) (off : Nat) (vs : List Value) : Array Value := (ca.toList.take off ++ vs ++ ca.toList.drop (off + vs.length)).toArray
theorem spl_get {ca : Array Value} {off : Nat} {vs : List Value} (h2 : off + vs.length ≤ ca.size) (j : Nat) : (spl ca off vs)[j]? = if off ≤ j ∧ j < off + vs.length then vs[j - off]? else ca[j]? := by
  unfold spl
  simp only [List.getElem?_toArray, List.append_assoc]
  rw [List.getElem?_append]
  simp only [List.length_take, Array.length_toList, Nat.min_eq_left (show off ≤ ca.size by omega)]
  by_cases c1 : j < off
  · rw [if_pos c1, if_neg (by omega), List.getElem?_take, if_pos c1, Array.getElem?_toList]
  · rw [if_neg c1, List.getElem?_append]
    by_cases c2 : j - off < vs.length
    · rw [if_pos c2, if_pos (by omega)]
    · rw [if_neg c2, if_neg (by omega), List.getElem?_drop, Array.getElem?_toList]
      congr 1; omega
theorem spl_size {ca : Array Value} {off : Nat} {vs : List Value} (h2 : off + vs.length ≤ ca.size) : (spl ca off vs).size = ca.size := by
  unfold spl
  simp; omega

theorem write_core {G S F Fy} (hg : Good E G h w S F) {r : Nat} {rt rt' : Root} {g : Gh} {fl cs : List AV} {vs : List Value} {off : Nat} (hr : h[r]? = some rt) (hgr : G[r]? = some g)
    (hf : Flat rt fl) (hcs : off + cs.length ≤ fl.length) (hpos : 0 < fl.length) (hk : SameK rt rt') (hf' : Flat rt' (lay fl off cs)) (h0 : CsR G w E.Ro S cs vs Fy) (ha : Apart E w S F Fy) :
    ∃ F' b ca T, g.ob = some b ∧ w.heap[b]? = some (.cells ca T (0, 0)) ∧ fl.length ≤ ca.size ∧ Good E G (h.set r rt') (w.setRow b (spl ca off vs)) S F' ∧ Ext E G w S G (w.setRow b (spl ca off vs)) S := by
  have hrl := (List.getElem?_eq_some_iff.1 hr).1
  have hlen : cs.length = vs.length := h0.choose_spec.1
  obtain ⟨b, ca, T, q1, q2, q3, q4⟩ := rootR_blk (hg.root r rt g hr hgr) hf hpos
  have hFb : F r b := by obtain ⟨_, _, _, _, _, _, h5⟩ := q4; exact (h5 b).2 (.inl rfl)
  have hchg := Chg.setRow w b (spl ca off vs) (F r) hFb
  have he := hg.ext_chg hchg (G' := G) (fun _ _ h => h)
  obtain ⟨F', hF', hsub⟩ := blkR_put q4 (cs' := spl ca off vs) h0 (ha.2 r) hcs (spl_get (by omega))
  have hheap : (w.setRow b (spl ca off vs)).heap[b]? = some (.cells (spl ca off vs) T (0, 0)) := setRow_heap w b ca _ T (0, 0) q2
  have hrt := rootR_of_blk (hg.root r rt g hr hgr) hf hpos q1 q2 (G' := G) (w' := w.setRow b (spl ca off vs)) (F' := F') hk hf' (lay_length hcs) hheap (spl_size (by omega))
    (hF'.ext he (fun k hk hkb => setRow_other w b k _ hkb))
  refine ⟨_, b, ca, T, q1, q2, q3, hg.setRoot' hrl hgr hchg hrt (fun i k hi hk hf => ?_) (fun k hk => ?_), he⟩
  · rcases hsub k hf with h | h
    · exact hi (hg.dis i r k hk h)
    · exact ha.2 i k hk h
  · have hsz : (w.setRow b (spl ca off vs)).heap.size = w.heap.size := by simp
    rw [hsz]
    rcases hsub k hk with h | h
    · exact hg.own r k h
    · exact ha.1 k h

theorem lst_lay {s : Nat} {l : List (List AV)} {e f : Nat} {el cs : List AV} (hl : ∀ x ∈ l, x.length = s) (hel : l[e]? = some el) (hc : f + cs.length ≤ el.length) :
    Flat (.lst s (l.set e (lay el f cs))) (lay l.flatten (e * s + f) cs) ∧ e * s + f + cs.length ≤ l.flatten.length := by
  have hells : el.length = s := hl el (List.mem_of_getElem? hel)
  have hlay : (lay el f cs).length = s := by rw [lay_length (by omega), hells]
  obtain ⟨f1, f2, f3⟩ := flat_set s l hl e el hel (lay el f cs) hlay
  have hset : ∀ q ∈ l.set e (lay el f cs), q.length = s := by
    intro q hq
    rcases List.mem_or_eq_of_mem_set hq with hq | rfl
    · exact hl q hq
    · exact hlay
  have hfit : e * s + f + cs.length ≤ l.flatten.length := by
    rw [f1]; simp only [List.length_append, f3]; omega
  refine ⟨⟨?_, hset⟩, hfit⟩
  rw [f2]
  unfold lay
  have t1 : l.flatten.take (e * s + f) = (l.take e).flatten ++ el.take f := by
    rw [f1, List.append_assoc, List.take_append, f3, List.take_of_length_le (by omega), show e * s + f - e * s = f by omega, List.take_append_of_le_length (by omega)]
  have t2 : l.flatten.drop (e * s + f + cs.length) = el.drop (f + cs.length) ++ (l.drop (e + 1)).flatten := by
    rw [f1, List.append_assoc, List.drop_append, f3, List.drop_of_length_le (by omega), show e * s + f + cs.length - e * s = f + cs.length by omega, List.drop_append_of_le_length (by omega)]
    simp
  rw [t1, t2]
  simp [List.append_assoc]

theorem run_storeVar' {ty : TypeId} {i : TI} (hi : TIok P ty i) {b o : Nat} {cs : Array Value} {T} (hb : w.heap[b]? = some (.cells cs T (0, 0))) {v : Value} {vs : List Value} (hv : v.cells = vs.toArray) (hl : vs.length = i.size)
    (ho : o + i.size ≤ cs.size) (h1 : ∀ x ∈ vs, x.oneCell' = true) : (storeVar ty ⟨b, o, none⟩ v).run P w = .ok () (w.setRow b (spl cs o vs)) := run_storeVar hi hb hv hl ho h1

theorem apart0 {S : BS} {F : Nat → BS} : Apart E w S F (fun _ => False) := ⟨fun _ h => h.elim, fun _ _ _ h => h⟩

theorem s_store {ty : TypeId} {p x : Operand} (hC : CtxOk P C) (ho : o.op = .store ty p x) : OpS P C o := by
  intro E D t h a w k next Q hp ⟨G, S, F, hg, ht, hd⟩ hpan hc
  unfold opP at hp
  simp only [ho, evK_eq] at hp
  obtain ⟨i, hi, hp⟩ := on_spec hp
  have hti := hC.tab _ _ hi
  have hsz : 0 < i.size := by obtain ⟨_, _, _, _, _, _, _, _, _, _, _, _, _, h⟩ := hti.all; exact h
  obtain ⟨cs, vs, hp, c1, c2, c3, c4, c5⟩ := cells_spec (evF_spec ht x) hp
  have hv := evF_spec ht p
  split at hp
  · rename_i r e f kk hb
    rw [hb] at hv
    obtain ⟨b, g, p1, p2, p3⟩ := hv.ptr_inv
    obtain ⟨root, hr, hp⟩ := rootK_spec hp
    split at hp
    · rename_i cells _
      obtain ⟨c6, hp⟩ := layK_spec _ _ _ _ hp
      rw [setK_eq] at hp
      obtain ⟨F', b', ca, T, q1, q2, q3, a1, a2⟩ := write_core hg (rt' := .box (lay cells f cs)) hr p1 (show Flat (.box cells) cells from rfl) c6 (by omega) trivial rfl (CsR.of0 c3 c4) apart0
      rw [p2] at q1; cases q1
      refine wp_skp (w' := w.setRow b (spl ca f vs)) ?_ (rel_put a1 (ht.ext a2) hd (.top _) hp hc)
      rw [Nat.zero_mul, Nat.zero_add] at p3
      have hrun := run_storeVar' (P := P) (o := f) hti q2 c1 c2 (by omega) c5
      simp [execOp, ho, p3, Instr.storeAt, Instr.sureAddr, hrun]
    · obtain ⟨cs', h', S', F', Fy, hp, hstp, hcr, hap, _⟩ := foldCs_spec cs vs hg c3 c4 hp
      obtain ⟨root, hr', hp⟩ := rootK_spec hp
      split at hp
      · rename_i s l
        obtain ⟨el, hel, hfs, hp⟩ := hp
        have hg' := hstp.good
        have hse : g.s = s ∧ ∀ e ∈ l, e.length = s := ⟨(hg'.root r _ g hr' p1).1, (hg'.root r _ g hr' p1).2.1⟩
        obtain ⟨c6, hp⟩ := layK_spec _ _ _ _ hp
        rw [setK_eq] at hp
        have hlen : cs'.length = vs.length := hcr.choose_spec.1
        obtain ⟨l1, l2⟩ := lst_lay hse.2 hel c6
        obtain ⟨F'', b', ca, T, q1, q2, q3, a1, a2⟩ := write_core hg' (rt' := .lst s (l.set e (lay el f cs'))) hr' p1 (show Flat (.lst s l) l.flatten from ⟨rfl, hse.2⟩) l2 (by omega) rfl l1 hcr hap
        rw [p2] at q1; cases q1
        rw [hse.1] at p3
        have hrun := run_storeVar' (P := P) (o := e * s + f) hti q2 c1 c2 (by omega) c5
        refine wp_skp (w' := w.setRow b (spl ca (e * s + f) vs)) ?_ (rel_put a1 ((ht.ext hstp.ext).ext a2) hd (.top _) hp hc)
        simp [execOp, ho, p3, Instr.storeAt, Instr.sureAddr, hrun]
      · exact hp.elim
    · exact hp.elim
  · rename_i r f j hb
    rw [hb] at hv
    obtain ⟨b, g, p1, p2, p3⟩ := hv.aptr_inv
    obtain ⟨root, hr, hp⟩ := rootK_spec hp
    split at hp
    · rename_i cells x1 hx1
      obtain ⟨hlt, cells', hset, hp⟩ := hp
      rw [setK_eq] at hp
      have hlay : lay cells (j + f) [x1] = cells' := by
        rw [← hset]
        unfold lay
        rw [List.set_eq_take_append_cons_drop, if_pos hlt]
        simp
      obtain ⟨F', b', ca, T, q1, q2, q3, a1, a2⟩ := write_core hg (rt' := .box cells') hr p1 (show Flat (.box cells) cells from rfl) (off := j + f) (cs := [x1]) (by simp only [List.length_cons, List.length_nil]; omega) (by omega) trivial hlay (CsR.of0 c3 c4) apart0
      rw [p2] at q1; cases q1
      have hlen : vs.length = 1 := by simpa using c3.symm
      have hrun := run_storeVar' (P := P) (o := j + f) hti q2 c1 c2 (by omega) c5
      refine wp_skp (w' := w.setRow b (spl ca (j + f) vs)) ?_ (rel_put a1 (ht.ext a2) hd (.top _) hp hc)
      simp [execOp, ho, p3, Instr.storeAt, Instr.sureAddr, hrun]
    · exact hp.elim
  · exact hp.elim

/-! ### Elements copied out -/

theorem run_firstCells_blk {b off n c m es : Nat} {cs : Array Value} {T fz} (hb : w.heap[b]? = some (.cells cs T fz)) (hfit : off + m * es ≤ cs.size) :
    (Builtin.firstCells es m (.slice (some ⟨b, off, none⟩) n c)).run P w = .ok (segV cs off (m * es)).toArray w := by
  simp only [Builtin.firstCells]
  rw [run_loadCells (P := P) w ⟨b, off, none⟩ (m * es) (fun j => cs.getD (off + j) undef) (fun j hj => by
    rw [add_off]
    simp [World.cell?, hb, show off + j < cs.size by omega])]
  rfl
theorem run_firstCells0 {es : Nat} {a : Option Addr} {n c : Nat} : (Builtin.firstCells es 0 (.slice a n c)).run P w = .ok #[] w := by
  cases a with
  | none => simp [Builtin.firstCells]
  | some a =>
    simp only [Builtin.firstCells, Nat.zero_mul]
    rw [run_loadCells (P := P) w a 0 (fun _ => undef) (fun j hj => by omega)]
    rfl
theorem segV_take {cs : Array Value} {o n m : Nat} (h : m ≤ n) : (segV cs o n).take m = segV cs o m := by
  rw [segV, segV, ← List.map_take, List.take_range, Nat.min_eq_left h]

/-- The source of elements. -/
structure SrcR (P : Program) (G : List Gh) (w : World) (Ro S : BS) (es : Nat) (L : List (List AV)) (v : Value) (vs : List Value) (Fy : BS) : Prop where
  el : ∀ e ∈ L, e.length = es
  len : vs.length = L.length * es
  cells : CsR G w Ro S L.flatten vs Fy
  num : ∀ w2, Chg w w2 (fun _ => False) → (Builtin.lenOf v).run P w2 = .ok L.length w2
  get : ∀ w2, Chg w w2 (fun _ => False) → ∀ m, m ≤ L.length → (Builtin.firstCells es m v).run P w2 = .ok (vs.take (m * es)).toArray w2

theorem srcR_nil {G Ro S} {es : Nat} {a : Option Addr} {c : Nat} : SrcR P G w Ro S es [] (.slice a 0 c) [] (fun _ => False) :=
  ⟨by simp, by simp, by simpa using CsR.nil, fun w2 _ => by simp [Builtin.lenOf], fun w2 _ m hm => by
    have : m = 0 := by simpa using hm
    subst this
    simpa using run_firstCells0⟩

theorem srcK_spec {G S F} (hg : Good E G h w S F) {es : Nat} {x : AV} {v : Value} {k : List (List AV) → Prop} (hes : 0 < es) (hv : VR G w E.Ro S x v) (hp : srcK es x h k) :
    ∃ L vs, k L ∧ SrcR P G w E.Ro S es L v vs (fun _ => False) := by
  unfold srcK at hp
  split at hp
  · have := hv.nils_inv
    subst this
    exact ⟨[], [], hp, srcR_nil⟩
  · rename_i b z s L
    split at hp
    · rename_i hs
      have hs : s = es := by simpa using hs
      subst hs
      obtain ⟨hsl, hk⟩ := hp
      obtain ⟨ad, c, p1, p2, p3⟩ := hv.imm_inv
      subst p1
      generalize hn : L.length = n at p3
      cases p3 with
      | sl0 => exact ⟨[], [], hk, srcR_nil⟩
      | sl _ _ _ bb off _ cs T fz cv q1 q2 q3 q0 q4 q5 =>
        clear hn
        have hfl := flat_length _ _ q3
        have hval : ∀ j, j < L.flatten.length → cs.getD (off + j) undef = cv j := fun j hj => by rw [Array.getD_eq_getD_getElem?, q4 j hj]; rfl
        by_cases h0 : L = []
        · subst h0
          exact ⟨[], [], hk, srcR_nil⟩
        have hsize : off + L.length * s ≤ cs.size := by
          have hl0 : 0 < L.length := List.length_pos_iff.2 h0
          have hpos : 0 < L.length * s := Nat.mul_pos hl0 hes
          have := (Array.getElem?_eq_some_iff.1 (q4 (L.length * s - 1) (by omega))).1
          omega
        refine ⟨L, segV cs off (L.length * s), hk, q3, segV_length _ _ _, ?_, fun w2 _ => by simp [Builtin.lenOf], fun w2 hw m hm => ?_⟩
        · refine CsR.of0 (by rw [segV_length, hfl]) (fun j y hj => ?_)
          have hjl := (List.getElem?_eq_some_iff.1 hj).1
          rw [segV_getD _ _ _ _ (by omega), hval j hjl]
          obtain ⟨e, he, hy⟩ := List.mem_flatten.1 (List.mem_of_getElem? hj)
          exact .inl ⟨hsl e he y hy, .ir _ _ (hsl e he y hy) ((q5 j y hj).weak.ext (fun _ h => h) (fun _ _ => rfl) |> fun h => by cases b <;> exact h), (q5 j y hj).one⟩
        · have hle : m * s ≤ L.length * s := Nat.mul_le_mul_right _ hm
          rw [segV_take hle]
          exact run_firstCells_blk (by rw [hw.heap _ (Array.getElem?_eq_some_iff.1 q2).1 (fun h => h)]; exact q2) (by omega)
    · exact hp.elim
  · rename_i r o n z
    obtain ⟨rt, hr, hp2⟩ := rootK_spec hp
    clear hp
    cases rt with
    | lst s l =>
      simp only at hp2
      split at hp2
      · rename_i hs
        have hs : s = es := by simpa using hs
        subst hs
        obtain ⟨L, hL, hLn, hsl, hk⟩ := hp2
        obtain ⟨g, ad, c, p1, p2, p3, p4, p5⟩ := hv.slc_inv
        subst p2
        obtain ⟨q1, q2, q3⟩ := hg.root r _ g hr p1
        by_cases h0 : n = 0
        · subst h0
          have : L = [] := by simpa using hLn
          subst this
          exact ⟨[], [], hk, srcR_nil⟩
        rcases p5 with p5 | ⟨b, p5, p6, p7⟩
        · omega
        subst p6
        rcases q3 with ⟨q3, _⟩ | ⟨b', cs, T, u1, u2, u3, u4, u5⟩
        · rw [q3] at p5; cases p5
        rw [p5] at u1; cases u1
        obtain ⟨cv, Fc, w1, w2', _⟩ := u5
        have hmem : ∀ e ∈ L, e ∈ l := fun e he => by rw [← hL] at he; exact List.mem_of_mem_drop (List.mem_of_mem_take he)
        have hlen : ∀ e ∈ L, e.length = s := fun e he => q2 e (hmem e he)
        have hfl := flat_length _ _ hlen
        have hfll := flat_length _ _ q2
        have hon : o + n ≤ l.length := by
          have := congrArg List.length hL
          rw [hLn] at this
          simp only [List.length_take, List.length_drop] at this
          omega
        have hmul : o * s + n * s ≤ l.flatten.length := by rw [hfll, ← Nat.add_mul]; exact Nat.mul_le_mul_right _ hon
        have hget : ∀ j, j < n * s → L.flatten[j]? = l.flatten[o * s + j]? := by
          intro j hj
          have hdiv : j / s < n := by rw [Nat.div_lt_iff_lt_mul hes]; exact hj
          have hmod := Nat.mod_lt j hes
          have e1 : L[j / s]? = l[o + j / s]? := by rw [← hL, List.getElem?_take, if_pos hdiv, List.getElem?_drop]
          have e2 : l[o + j / s]? = some l[o + j / s] := List.getElem?_eq_getElem (by omega)
          have f1 := flat_get _ _ hlen _ _ (e1.trans e2) _ hmod
          have f2 := flat_get _ _ q2 _ _ e2 _ hmod
          rw [Nat.div_add_mod'] at f1
          rw [f1, ← f2]
          congr 1
          rw [Nat.add_mul, Nat.add_assoc, Nat.div_add_mod']
        have hval : ∀ j, j < n * s → cs.getD (o * s + j) undef = cv (o * s + j) := fun j hj => by rw [Array.getD_eq_getD_getElem?, w1 _ (by omega)]; rfl
        refine ⟨L, segV cs (o * s) (n * s), hk, hlen, by rw [segV_length, hLn], CsR.of0 (by rw [segV_length, hfl, hLn]) (fun j y hj => ?_), fun w2 _ => by simp [Builtin.lenOf, hLn], fun w2 hw m hm => ?_⟩
        · have hjl := (List.getElem?_eq_some_iff.1 hj).1
          rw [hfl, hLn] at hjl
          rw [segV_getD _ _ _ _ hjl, hval j hjl]
          obtain ⟨e, he, hy⟩ := List.mem_flatten.1 (List.mem_of_getElem? hj)
          rw [hget j hjl] at hj
          have := (w2' _ y hj).vr (hsl e he y hy)
          exact .inl ⟨hsl e he y hy, this.1, this.2.1⟩
        · have hle : m * s ≤ n * s := Nat.mul_le_mul_right _ (by omega)
          rw [segV_take hle, q1]
          exact run_firstCells_blk (by rw [hw.heap _ (Array.getElem?_eq_some_iff.1 u2).1 (fun h => h)]; exact u2) (by omega)
      · exact hp2.elim
    | _ => exact hp2.elim
  · rename_i r o n
    obtain ⟨rt, hr, hp2⟩ := rootK_spec hp
    clear hp
    split at hp2
    · rename_i cells
      obtain ⟨hle, hp⟩ := cutK_spec _ _ _ _ hp2
      clear hp2
      split at hp
      · exact hp.elim
      · rename_i hsl
        obtain ⟨b, g, c, p1, p2, p3, p4⟩ := hv.bsl_inv
        subst p4
        obtain ⟨b', cs, T, u1, u2, u3, cv, Fc, w1, w2', _⟩ := hg.root r _ g hr p1
        rw [p2] at u1; cases u1
        have hnl : ((cells.drop o).take n).length = n := by simp; omega
        have hflat : (((cells.drop o).take n).map fun c => [c]).flatten = (cells.drop o).take n := by
          generalize (cells.drop o).take n = q
          induction q with
          | nil => rfl
          | cons a q ih => simp [ih]
        have hsl' : ∀ x ∈ (cells.drop o).take n, x.isSl = false := by
          intro x hx
          have := hsl
          rw [List.any_eq_false] at this
          simpa using this x hx
        have hval : ∀ j, j < n → cs.getD (o + j) undef = cv (o + j) := fun j hj => by rw [Array.getD_eq_getD_getElem?, w1 _ (by omega)]; rfl
        refine ⟨_, segV cs o n, hp, fun e he => by obtain ⟨c, _, rfl⟩ := List.mem_map.1 he; rfl, by simp [segV_length, hnl]; omega, CsR.of0 (by rw [segV_length, hflat, hnl]) (fun j y hj => ?_), fun w2 _ => by simp [Builtin.lenOf]; omega, fun w2 hw m hm => ?_⟩
        · rw [hflat] at hj
          have hm := hsl' y (List.mem_of_getElem? hj)
          have hjl := (List.getElem?_eq_some_iff.1 hj).1
          rw [hnl] at hjl
          rw [segV_getD _ _ _ _ hjl, hval j hjl]
          rw [List.getElem?_take, if_pos hjl, List.getElem?_drop] at hj
          have := (w2' _ y hj).vr hm
          exact .inl ⟨hm, this.1, this.2.1⟩
        · simp only [List.length_map, hnl] at hm
          rw [segV_take (by omega)]
          exact run_firstCells_blk (by rw [hw.heap _ (Array.getElem?_eq_some_iff.1 u2).1 (fun h => h)]; exact u2) (by omega)
    · exact hp2.elim
  · rename_i s
    have := hv.v_inv.1
    subst this
    split at hp
    · have hl : (strB s).flatten = s.data.toList.map fun b => AV.v (.int .u8 b.toNat) := by
        unfold strB byteC
        generalize s.data.toList = q
        induction q with
        | nil => rfl
        | cons a q ih => simp only [List.map_cons, List.flatten_cons, ih]; rfl
      have hsz : s.size = s.data.toList.length := by rw [Array.length_toList]; rfl
      refine ⟨strB s, s.data.toList.map fun b => Value.int .u8 b.toNat, hp, by simp [strB, byteC], by rw [Nat.mul_one, strB, List.length_map, List.length_map], CsR.of0 (by rw [hl, List.length_map, List.length_map]) (fun j y hj => ?_), fun w2 _ => by simp only [Builtin.lenOf]; rw [strB, List.length_map, ← hsz]; rfl, fun w2 _ m hm => ?_⟩
      · rw [hl, List.getElem?_map] at hj
        rw [List.getD_eq_getElem?_getD, List.getElem?_map]
        cases hq : s.data.toList[j]? with
        | none => simp [hq] at hj
        | some b => simp [hq] at hj; subst hj; exact .inl ⟨rfl, vr_int _ _ _ _ _ _, rfl⟩
      · simp only [Builtin.firstCells, Sem.run_pure, Nat.mul_one]
        congr 1
        apply Array.ext'
        simp [ByteArray.data_extract, List.map_take]
    · exact hp.elim
  · exact hp.elim
end

end Go.Proofs.Ytegcfogbdgmajaa.Ab
