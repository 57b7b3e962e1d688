/- Parts of slices and strings, literals of slices, conversions, function values, maps, clear, interfaces, panics: each is sound. No condition. -/
import Derived.Test.YtegcfogbdgmajaaAbOps5
import Derived.MapKept
import Derived.Laws.Panics
namespace Go.Proofs.Ytegcfogbdgmajaa.Ab
set_option linter.unusedVariables false
set_option linter.unusedSimpArgs false

section
variable {P : Program} {C : Ctx} {E : Env} {D : List Deferred × Nat} {o : Oper} {t : TS} {h : HP} {a : Act} {w : World} {k : TS → HP → Prop} {next : Act → World → Prop} {Q : Exit → Act → World → Prop}

/-! ### Bounds -/

def BndR (x : Option Value) (d j : Nat) : Prop := (x = none ∧ j = d) ∨ ∃ kd, x = some (.int kd (j : Int))
theorem bndK_spec {G Ro S} (ht : TR G w Ro S t a) {x : Option Operand} {d : Nat} {k : Nat → Prop} (hp : bndK t x d k) : ∃ j, k j ∧ BndR (x.map a.eval) d j := by
  unfold bndK at hp
  split at hp
  · exact ⟨d, hp, .inl ⟨rfl, rfl⟩⟩
  · rename_i x
    rw [evK_eq] at hp
    have hv := evF_spec ht x
    split at hp
    · rename_i kd z hb
      rw [hb] at hv
      have hv := hv.v_inv.1
      obtain ⟨j, rfl, hp⟩ := hp
      exact ⟨j, hp, .inr ⟨kd, by simp [hv]⟩⟩
    · exact hp.elim
theorem run_bounds {isS : Bool} {len cap l u : Nat} {lo hi : Option Value} (h1 : BndR lo 0 l) (h2 : BndR hi len u) (hlu : l ≤ u) (hul : u ≤ len) (hlc : len ≤ cap) :
    (Instr.sliceBounds isS len cap lo hi none).run P w = .ok (l, u, cap) w := by
  unfold Instr.sliceBounds
  rcases h1 with ⟨rfl, rfl⟩ | ⟨kd, rfl⟩ <;> rcases h2 with ⟨rfl, rfl⟩ | ⟨kd', rfl⟩ <;> simp [Instr.sliceBound, asIntOf, Result.andThen, hlu, show u ≤ cap by omega, hul, hlc] <;> simp_all [Result.andThen]
theorem run_bounds0 {len cap : Nat} {lo : Option Value} {kd kd' : IntKind} (h1 : BndR lo 0 0) :
    (Instr.sliceBounds true len cap lo (some (.int kd 0)) (some (.int kd' 0))).run P w = .ok (0, 0, 0) w := by
  unfold Instr.sliceBounds
  rcases h1 with ⟨rfl, _⟩ | ⟨kd, rfl⟩ <;> simp [Instr.sliceBound, asIntOf, Result.andThen]

theorem IR.sub {Ro S : BS} {b : Bool} {s : Nat} {L : List (List AV)} {ad : Option Addr} {c l u : Nat} (h : IR w Ro S b (.sl s L) (.slice ad L.length c)) (hlu : l ≤ u) (hu : u ≤ L.length) :
    IR w Ro S b (.sl s ((L.drop l).take (u - l))) (.slice (if c = l then ad else ad.map (·.add (l * s))) ((L.drop l).take (u - l)).length (c - l)) := by
  have hlen : ((L.drop l).take (u - l)).length = u - l := by simp; omega
  by_cases h0 : u - l = 0
  · rw [h0, List.take_zero]; exact .sl0 _ _ _ _
  · generalize hn : L.length = n at h
    cases h with
    | sl0 => simp at hu; omega
    | sl _ _ _ b off _ cs T fz cv q1 q2 q3 q0 q4 q5 =>
      rw [if_neg (by omega)]
      simp only [Option.map_some, add_off]
      have hm : ∀ e ∈ (L.drop l).take (u - l), e.length = s := fun e he => q3 e (List.mem_of_mem_drop (List.mem_of_mem_take he))
      have hfl := flat_length _ _ hm
      have hfl2 := flat_length _ _ q3
      have hget : ∀ j, j < ((L.drop l).take (u - l)).flatten.length → ((L.drop l).take (u - l)).flatten[j]? = L.flatten[l * s + j]? := by
        intro j hj
        rw [hfl, hlen] at hj
        have hs : 0 < s := by
          rcases Nat.eq_zero_or_pos s with h | h
          · subst h; simp at hj
          · exact h
        have hdiv : j / s < u - l := by rw [Nat.div_lt_iff_lt_mul hs]; exact hj
        have hmod := Nat.mod_lt j hs
        have e1 : ((L.drop l).take (u - l))[j / s]? = L[l + j / s]? := by rw [List.getElem?_take, if_pos hdiv, List.getElem?_drop]
        have e2 : L[l + j / s]? = some L[l + j / s] := List.getElem?_eq_getElem (by omega)
        have f1 := flat_get _ _ hm _ _ (e1.trans e2) _ hmod
        have f2 := flat_get _ _ q3 _ _ e2 _ hmod
        rw [Nat.div_add_mod'] at f1
        rw [f1, ← f2]
        congr 1
        rw [Nat.add_mul, Nat.add_assoc, Nat.div_add_mod']
      have hb : ∀ j, j < ((L.drop l).take (u - l)).flatten.length → l * s + j < L.flatten.length := by
        intro j hj
        rw [hfl, hlen] at hj
        rw [hfl2]
        calc l * s + j < l * s + (u - l) * s := by omega
          _ = u * s := by rw [← Nat.add_mul]; congr 1; omega
          _ ≤ L.length * s := Nat.mul_le_mul_right _ hu
      exact .sl _ s _ b (off + l * s) _ cs T fz (fun j => cv (l * s + j)) q1 q2 hm (by rw [hlen]; omega) (fun j hj => by rw [Nat.add_assoc]; exact q4 _ (hb j hj)) (fun j x hj => by
        have hj' := (List.getElem?_eq_some_iff.1 hj).1
        rw [hget j hj'] at hj
        exact q5 _ _ hj)
theorem IR.cap {Ro S : BS} {b : Bool} {s : Nat} {L : List (List AV)} {ad : Option Addr} {n c : Nat} (h : IR w Ro S b (.sl s L) (.slice ad n c)) : L.length ≤ c := by
  cases h with
  | sl0 => exact Nat.zero_le _
  | sl _ _ _ _ _ _ _ _ _ _ _ _ _ q0 => exact q0

theorem IR.len_le {Ro S : BS} {b : Bool} {s : Nat} {L : List (List AV)} {ad : Option Addr} {n c : Nat} (h : IR w Ro S b (.sl s L) (.slice ad n c)) : n = L.length := by cases h <;> simp

theorem q_slice {ty : TypeId} {x : Operand} {lo hi mx : Option Operand} (hC : CtxOk P C) (ho : o.op = .slice ty x lo hi mx) : OpQ P C o := by
  intro E D t h a w k hp ⟨G, S, F, hg, ht, hd⟩
  unfold opP at hp
  simp only [ho, evK_eq] at hp
  obtain ⟨i, hi', hpi⟩ := on_spec hp
  clear hp
  obtain ⟨info, dd, z, h1, h2, h3, h4, h5, h6, h7, h8, h9, h10, h11⟩ := hC.tab _ _ hi'
  have hv := evF_spec ht x
  have hp := hpi
  clear hpi
  unfold sliceP at hp
  split at hp
  · rename_i s hk hb
    rw [hb] at hv
    have hv := hv.v_inv.1
    rw [hk] at h6
    cases dd <;> simp only [KindOk] at h6
    obtain ⟨l, hp, b1⟩ := bndK_spec ht hp
    obtain ⟨u, hp, b2⟩ := bndK_spec ht hp
    obtain ⟨hlu, hus, hp⟩ := hp
    refine q_val (v := .string (s.extract l u)) (fun w2 _ => ?_) hg ht hd (.ir _ _ rfl (.v _ _ rfl)) hp
    have := run_bounds (P := P) (w := w2) (isS := false) b1 b2 hlu hus (Nat.le_refl _)
    simp [execOp, ho, hv, Instr.sliceAt, Instr.slice, run_underlying h4, this]
  · rename_i e es r off n zz hk hb
    rw [hb] at hv
    obtain ⟨rt, hr, hp2⟩ := rootK_spec hp
    clear hp
    cases rt with
    | lst s L =>
      simp only at hp2
      split at hp2
      · rename_i hs
        have hs : s = es := by simpa using hs
        subst hs
        rw [hk] at h6
        cases dd <;> simp only [KindOk] at h6
        obtain ⟨rfl, ei, q1, q2⟩ := h6
        obtain ⟨l, hp, b1⟩ := bndK_spec ht hp2
        obtain ⟨u, hp, b2⟩ := bndK_spec ht hp
        obtain ⟨hlu, hun, hp⟩ := hp
        obtain ⟨g, ad, c, p1, p2, p3, p4, p5⟩ := hv.slc_inv
        have hgs : g.s = s := (hg.root r _ g hr p1).1
        refine q_val (v := .slice (if c = l then ad else ad.map (·.add (l * s))) (u - l) (c - l)) (fun w2 _ => ?_) hg ht hd (.slc _ _ _ _ g _ _ p1 (by omega) (by simp) ?_) hp
        · have := run_bounds (P := P) (w := w2) (isS := true) b1 b2 hlu hun p3
          simp [execOp, ho, p2, Instr.sliceAt, Instr.slice, run_underlying h4, this, run_sizeOf' q1, q2]
        · by_cases hcl : c = l
          · left; omega
          · rw [if_neg hcl]
            rcases p5 with p5 | ⟨b, p5, p6, p7⟩
            · left; omega
            · right
              refine ⟨b, p5, by simp [p6, add_off, hgs, Nat.add_mul], ?_⟩
              rw [show off + l + (c - l) = off + c by omega]; exact p7
      · exact hp2.elim
    | _ => exact hp2.elim
  · rename_i e es b zz s L hk hb
    rw [hb] at hv
    split at hp
    · rename_i hs
      have hs : s = es := by simpa using hs
      subst hs
      rw [hk] at h6
      cases dd <;> simp only [KindOk] at h6
      obtain ⟨rfl, ei, q1, q2⟩ := h6
      obtain ⟨l, hp, b1⟩ := bndK_spec ht hp
      obtain ⟨u, hp, b2⟩ := bndK_spec ht hp
      obtain ⟨hlu, hun, hp⟩ := hp
      obtain ⟨ad, c, p1, p2, p3⟩ := hv.imm_inv
      have hsub := p3.sub hlu hun
      have hlen : ((L.drop l).take (u - l)).length = u - l := by simp; omega
      refine q_val (v := .slice (if c = l then ad else ad.map (·.add (l * s))) (u - l) (c - l)) (fun w2 _ => ?_) hg ht hd (.ir _ _ rfl (.imm _ _ _ _ _ _ _ _ (by simp) (by rw [hlen] at hsub; exact hsub) (by simp))) hp
      have := run_bounds (P := P) (w := w2) (isS := true) b1 b2 hlu hun p3.cap
      simp [execOp, ho, p1, Instr.sliceAt, Instr.slice, run_underlying h4, this, run_sizeOf' q1, q2]
    · exact hp.elim
  · rename_i e es _ hk
    rw [hk] at h6
    cases dd <;> simp only [KindOk] at h6
    obtain ⟨rfl, ei, q1, q2⟩ := h6
    split at hp
    · rename_i mx _ hi0
      obtain ⟨l, hp, b1⟩ := bndK_spec ht hp
      obtain ⟨u, hp, b2⟩ := bndK_spec ht hp
      obtain ⟨m, hp, b3⟩ := bndK_spec ht hp
      split at hp
      · have fin : ∀ (ad : Option Addr) (n c : Nat), a.eval x = .slice ad n c → (putK t o.dst (.imm true true es []) fun t => k t h) → QRes P E D o a w k := by
          intro ad n c hva hk'
          refine q_val (v := .slice ad 0 0) (fun w2 _ => ?_) hg ht hd (.ir _ _ rfl (.imm _ _ _ _ _ _ _ _ (by simp) (.sl0 _ _ _ _) (by simp))) hk'
          rcases b2 with ⟨b2, _⟩ | ⟨kd, b2⟩
          · cases b2
          rcases b3 with ⟨b3, _⟩ | ⟨kd', b3⟩
          · cases b3
          have := run_bounds0 (P := P) (w := w2) (len := n) (cap := c) (kd := kd) (kd' := kd') b1
          simp only [Option.map_some, Option.some.injEq] at b2 b3
          simp [execOp, ho, hva, Instr.sliceAt, Instr.slice, run_underlying h4, b2, b3, this, run_sizeOf' q1, q2]
        split at hp
        · rename_i hb; rw [hb] at hv; obtain ⟨g, ad, c, _, p2, _⟩ := hv.slc_inv; exact fin _ _ _ p2 hp
        · rename_i hb; rw [hb] at hv; obtain ⟨b, g, c, _, _, _, p2⟩ := hv.bsl_inv; exact fin _ _ _ p2 hp
        · rename_i hb; rw [hb] at hv; obtain ⟨ad, c, p2, _⟩ := hv.imm_inv; exact fin _ _ _ p2 hp
        · rename_i hb; rw [hb] at hv; exact fin _ _ _ hv.nils_inv hp
        · exact hp.elim
      · exact hp.elim
    · exact hp.elim
  · rename_i n r off _ hk hb
    rw [hb] at hv
    rw [hk] at h6
    cases dd <;> simp only [KindOk] at h6
    obtain ⟨hlen, ei, q1, q2⟩ := h6
    rw [hlen] at h4
    obtain ⟨l, hp, b1⟩ := bndK_spec ht hp
    obtain ⟨u, hp, b2⟩ := bndK_spec ht hp
    obtain ⟨hlu, hun, hln, hp⟩ := hp
    obtain ⟨b, g, p1, p2, p3⟩ := hv.ptr_inv
    refine q_val (v := .slice (some ⟨b, off + l, none⟩) (u - l) (n - l)) (fun w2 _ => ?_) hg ht hd (.bsl _ _ _ b _ g p1 p2 (by omega)) hp
    have := run_bounds (P := P) (w := w2) (isS := false) b1 b2 hlu hun (Nat.le_refl _)
    simp [execOp, ho, p3, Instr.sliceAt, run_underlying h4, Instr.sureAddr, this, run_sizeOf' q1, q2, show ¬ n = l by omega, add_off]
  · rename_i n b cs hk hb
    rw [hb] at hv
    rw [hk] at h6
    cases dd <;> simp only [KindOk] at h6
    obtain ⟨hlen, ei, q1, q2⟩ := h6
    rw [hlen] at h4
    split at hp
    · obtain ⟨hle, hp⟩ := cutK_spec _ _ _ _ hp
      obtain ⟨bb, off, ca, T, fz, cv, p1, p2, p3, p4, p5⟩ := hv.iptr_inv
      have hm : ((cs.drop 0).take n).map (fun c => [c]) = (cs.take n).map fun c => [c] := by simp
      have hl : ((cs.take n).map fun c => [c]).length = n := by simp; omega
      have hfl : ((cs.take n).map fun c => [c]).flatten = cs.take n := by
        generalize cs.take n = q
        induction q with
        | nil => rfl
        | cons a q ih => simp [ih]
      rw [hm] at hp
      refine q_val (v := .slice (some ⟨bb, off, none⟩) n n) (fun w2 _ => ?_) hg ht hd (.ir _ _ rfl (.imm _ _ _ _ _ _ n n (by simp) ?_ (by simp))) hp
      · simp [execOp, ho, p1, Instr.sliceAt, run_underlying h4, Instr.sureAddr, Instr.sliceBounds, Result.andThen, run_sizeOf' q1, q2]
        intro _
        simp [add_off]
      · have := IR.sl (w := w) (Ro := E.Ro) (S := S) b 1 ((cs.take n).map fun c => [c]) bb off n ca T fz cv p2 p3 (fun e he => by obtain ⟨c, _, rfl⟩ := List.mem_map.1 he; rfl) (by rw [hl]; exact Nat.le_refl _) (fun j hj => by
          rw [hfl] at hj; simp at hj; exact p4 j (by omega)) (fun j x hj => by
          rw [hfl, List.getElem?_take] at hj
          split at hj
          · exact p5 j x hj
          · cases hj)
        rwa [hl] at this
    · exact hp.elim
  · exact hp.elim
end

end Go.Proofs.Ytegcfogbdgmajaa.Ab
