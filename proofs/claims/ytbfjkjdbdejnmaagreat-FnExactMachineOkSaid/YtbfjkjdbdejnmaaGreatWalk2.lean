/- Functions walked, part 2. No condition. -/
import Derived.Test.YtbfjkjdbdejnmaaGreatWalk1
set_option linter.unusedVariables false
set_option linter.unusedSimpArgs false
/- Allowed: what a region has and lets. No condition. -/
namespace Go.Proofs.YtbfjkjdbdejnmaaGreat.Ab

structure Rg where
  b : Int
  l : Int
  o : Int
  r : Bool
  w : Bool
  x : Bool
def regC (r : Rg) : List AV := [.v (.int .i64 r.b), .v (.int .i64 r.l), .v (.int .i64 r.o), .v (.bool r.r), .v (.bool r.w), .v (.bool r.x)]
def Rg.ok (r : Rg) : Bool := regOk r.b r.l r.o
def partB (b l a : Int) : Int := (a - b) / (2 ^ l.toNat / 8)
def hasB (b l o a : Int) : Bool := decide (b ≤ a ∧ a < b + 2 ^ l.toNat ∧ (l < 8 ∨ o / 2 ^ (partB b l a).toNat % 2 = 0))
def letsB (r w x : Bool) (n : Int) : Bool := if n = 1 then r else if n = 2 then w else x
theorem regOk_spec {b l o : Int} (h : regOk b l o = true) : 5 ≤ l ∧ l ≤ 14 ∧ 0 ≤ o ∧ o ≤ 255 ∧ 0 ≤ b ∧ b ≤ 262144 - 2 ^ l.toNat := by
  simp only [regOk, decide_eq_true_eq] at h
  omega
/-- The eight parts of a region. -/
theorem part_spec {b l a : Int} (h1 : 5 ≤ l) (h2 : l ≤ 14) (h3 : b ≤ a) (h4 : a < b + 2 ^ l.toNat) : 0 ≤ partB b l a ∧ partB b l a ≤ 7 := by
  have hl : l = 5 ∨ l = 6 ∨ l = 7 ∨ l = 8 ∨ l = 9 ∨ l = 10 ∨ l = 11 ∨ l = 12 ∨ l = 13 ∨ l = 14 := by omega
  rcases hl with rfl | rfl | rfl | rfl | rfl | rfl | rfl | rfl | rfl | rfl <;> simp [partB] at * <;> omega
def hHas : CH := fun args hl K => match args, hl with
  | [.agg [.v (.int .i64 b), .v (.int .i64 l), .v (.int .i64 o), .v _, .v _, .v _], .v (.int .i64 a)], [] => regOk b l o = true ∧ I64 a ∧ K (.v (.bool (hasB b l o a))) []
  | _, _ => False
def hLets : CH := fun args hl K => match args, hl with
  | [.agg [.v (.int .i64 _), .v (.int .i64 _), .v (.int .i64 _), .v (.bool r), .v (.bool w), .v (.bool x)], .v (.int .i64 n)], [] => K (.v (.bool (letsB r w x n))) []
  | _, _ => False
set_option maxRecDepth 100000 in
theorem s_allows : HSound Tryz.prog 241 (callM [] false hLets) := by
  refine callM_sound cx0_ok mixed Tryz.func241 rfl fun args hl K hp => ?_
  unfold hLets at hp
  split at hp
  · repeat' ((first | refine And.intro (fun h1 => ?_) (fun h1 => ?_) | refine And.intro (by decide) ?_ | refine And.intro (show wfB _ = true from by kernel_rfl) ?_ | refine And.intro (And.intro rfl rfl) ?_ | exact And.intro rfl rfl | apply HeldC.intro | exact AV.top | (apply HeldF.intro; refine Exists.intro _ (And.intro (by assumption) ?_); refine And.intro (by decide) ?_; exact And.intro rfl rfl) | (refine And.intro (by (refine Exists.intro _ (And.intro (by assumption) ?_); refine And.intro (by decide) ?_; exact And.intro rfl rfl)) ?_) | refine Or.inl ?_) <;> try cases h1)
    all_goals refine fin_b hp ?_
    all_goals clear hp
    all_goals simp [letsB] at *
    all_goals simp [*]
  · exact hp.elim

def hParts : CH := fun args hl K => match args, hl with
  | [.agg [.v (.int .i64 _), .v (.int .i64 _), .v (.int .i64 o), .v _, .v _, .v _]], [] => 0 ≤ o ∧ o ≤ 255 ∧ K (.v (.int .u8 (255 - o))) []
  | _, _ => False
set_option maxRecDepth 100000 in
set_option pp.maxSteps 1500 in
theorem s_parts : HSound Tryz.prog 245 (callM [] false hParts) := by
  refine callM_sound cx0_ok mixed Tryz.func245 rfl fun args hl K hp => ?_
  unfold hParts at hp
  split at hp
  · rename_i o _ _ _
    obtain ⟨h0, h1, hp⟩ := hp
    refine fin_i hp ?_
    have key : ∀ n : Fin 256, (255 - (n.1 : Int)) = IntKind.u8.wrap ↑(BitVec.ofInt IntKind.u8.bits (if IntKind.u8.signed = true then -1 else IntKind.u8.max) ^^^ BitVec.ofInt IntKind.u8.bits (IntKind.u8.wrap (n.1 : Int))).toNat := by decide +kernel
    obtain ⟨n, rfl⟩ := Int.eq_ofNat_of_zero_le h0
    exact key ⟨n, by omega⟩
  · exact hp.elim
def hBit : CH := fun args hl K => match args, hl with
  | [.v (.int .u8 p), .v (.int .i64 i)], [] => 0 ≤ p ∧ p ≤ 255 ∧ 0 ≤ i ∧ i ≤ 7 ∧ K (.v (.bool (decide (p / 2 ^ i.toNat % 2 = 1)))) []
  | _, _ => False
set_option maxRecDepth 100000 in
set_option pp.maxSteps 1500 in
theorem s_partsHas : HSound Tryz.prog 246 (callM [] false hBit) := by
  refine callM_sound cx0_ok mixed Tryz.func246 rfl fun args hl K hp => ?_
  unfold hBit at hp
  split at hp
  · rename_i p i
    obtain ⟨h0, h1, h2, h3, hp⟩ := hp
    refine And.intro h2 ?_
    refine fin_b hp ?_
    have key : ∀ (n : Fin 256) (k : Fin 8), decide ((n.1 : Int) / 2 ^ k.1 % 2 = 1) = (IntKind.u8.wrap ↑(BitVec.ofInt IntKind.u8.bits ((n.1 : Int).fdiv (2 ^ min k.1 IntKind.u8.bits)) &&& BitVec.ofInt IntKind.u8.bits 1).toNat == 1) := by decide +kernel
    obtain ⟨n, rfl⟩ := Int.eq_ofNat_of_zero_le h0
    obtain ⟨k, rfl⟩ := Int.eq_ofNat_of_zero_le h2
    exact key ⟨n, by omega⟩ ⟨k, by omega⟩
  · exact hp.elim

theorem part_bit : ∀ (n : Fin 256) (k : Fin 8), ((255 - (n.1 : Int)) / 2 ^ k.1 % 2 = 1) ↔ ((n.1 : Int) / 2 ^ k.1 % 2 = 0) := by decide +kernel
def cxIHas : Ctx := mkC [(245, callM [] false hParts), (246, callM [] false hBit)]
theorem cxIHas_ok : CtxOk Tryz.prog cxIHas := mkC_ok (mem1 ⟨s_parts, fnOk Tryz.func245 rfl rfl⟩ (mem1 ⟨s_partsHas, fnOk Tryz.func246 rfl rfl⟩ mem0))
set_option maxRecDepth 100000 in
set_option maxHeartbeats 0 in
set_option pp.maxSteps 1500 in
theorem s_has : HSound Tryz.prog 240 (callM [] false hHas) := by
  refine callM_sound cxIHas_ok mixed Tryz.func240 rfl fun args hl K hp => ?_
  unfold hHas at hp
  split at hp
  · rename_i b l o _ _ _ a
    obtain ⟨hr, ha, hp⟩ := hp
    obtain ⟨l5, l14, o0, o1, b0, b1⟩ := regOk_spec hr
    obtain ⟨p0, p1⟩ := pow14 l5 l14
    simp only [I64] at ha
    repeat' ((first | refine And.intro (fun h1 => ?_) (fun h1 => ?_) | refine And.intro (by first | decide | omega | ((first | assumption | (simp only [IntKind.bits, wrap64]; omega)))) ?_ | refine And.intro (show Region.lexB _ _ = true from by kernel_rfl) ?_ | refine And.intro (show wfB _ = true from by kernel_rfl) ?_ | refine And.intro (And.intro rfl rfl) ?_ | exact And.intro rfl rfl | apply HeldC.intro | exact AV.top | (apply HeldF.intro; refine Exists.intro _ (And.intro (by assumption) ?_); refine And.intro (by decide) ?_; exact And.intro rfl rfl) | (refine And.intro (by (refine Exists.intro _ (And.intro (by assumption) ?_); refine And.intro (by decide) ?_; exact And.intro rfl rfl)) ?_) | refine Or.inl ?_ | refine Exists.intro _ (And.intro (int_nat (by first | decide | omega | ((first | assumption | (simp only [IntKind.bits, wrap64]; omega))))) (Exists.intro _ (And.intro rfl ?_)))) <;> try first | cases h1 | exact absurd h1 (by decide))
    · refine fin_b hp ?_
      simp [hasB] at *
      omega
    · refine fin_b hp ?_
      rw [shl14 l5 l14, wrap64 (by omega)] at h1
      simp [hasB] at *
      omega
    · refine fin_b hp ?_
      rename_i h2 h3
      rw [shl14 l5 l14, wrap64 (by omega)] at h3
      simp [hasB] at *
      omega
    · rename_i h2 h3
      rw [shl14 l5 l14, wrap64 (by omega)] at h3
      simp only [decide_eq_false_iff_not] at h1 h2 h3
      obtain ⟨q0, q1⟩ := part_spec l5 l14 (b := b) (a := a) (by omega) (by omega)
      have hsh : (2 : Int) ^ min (IntKind.i64.wrap (l - 3)).toNat IntKind.i64.bits = 2 ^ l.toNat / 8 := by
        rw [wrap64 (by omega), show min (l - 3).toNat IntKind.i64.bits = l.toNat - 3 by simp only [IntKind.bits]; omega]
        have : (2 : Int) ^ l.toNat = 8 * 2 ^ (l.toNat - 3) := by
          rw [show (8 : Int) = 2 ^ 3 by rfl, ← Int.pow_add]
          congr 1
          omega
        omega
      have esh : (IntKind.i64.wrap (a - b)).fdiv (2 ^ min (IntKind.i64.wrap (l - 3)).toNat IntKind.i64.bits) = partB b l a := by
        rw [hsh, wrap64 (by omega), Int.fdiv_eq_ediv_of_nonneg _ (by omega)]
        rfl
      have s0 : 0 ≤ IntKind.i64.wrap (l - 3) := by rw [wrap64 (by omega)]; omega
      have s1 : 0 ≤ (IntKind.i64.wrap (a - b)).fdiv (2 ^ min (IntKind.i64.wrap (l - 3)).toNat IntKind.i64.bits) := by rw [esh]; omega
      have s2 : (IntKind.i64.wrap (a - b)).fdiv (2 ^ min (IntKind.i64.wrap (l - 3)).toNat IntKind.i64.bits) ≤ 7 := by rw [esh]; omega
      repeat' ((first | refine And.intro (fun h1 => ?_) (fun h1 => ?_) | refine And.intro (by first | decide | omega | ((first | exact s0 | exact s1 | exact s2))) ?_ | refine And.intro (show Region.lexB _ _ = true from by kernel_rfl) ?_ | refine And.intro (show wfB _ = true from by kernel_rfl) ?_ | refine And.intro (And.intro rfl rfl) ?_ | exact And.intro rfl rfl | apply HeldC.intro | exact AV.top | (apply HeldF.intro; refine Exists.intro _ (And.intro (by assumption) ?_); refine And.intro (by decide) ?_; exact And.intro rfl rfl) | (refine And.intro (by (refine Exists.intro _ (And.intro (by assumption) ?_); refine And.intro (by decide) ?_; exact And.intro rfl rfl)) ?_) | refine Or.inl ?_ | refine Exists.intro _ (And.intro (int_nat (by first | decide | omega | ((first | exact s0 | exact s1 | exact s2)))) (Exists.intro _ (And.intro rfl ?_)))) <;> try first | cases h1 | exact absurd h1 (by decide))
      all_goals refine fin_b hp ?_
      all_goals rw [esh]
      all_goals
        rw [Bool.eq_iff_iff]
        simp only [hasB, decide_eq_true_eq]
        clear hp s0 s1 s2 esh hsh
        generalize partB b l a = q at *
        obtain ⟨O, rfl⟩ := Int.eq_ofNat_of_zero_le o0
        obtain ⟨Q, rfl⟩ := Int.eq_ofNat_of_zero_le q0
        have := part_bit ⟨O, by omega⟩ ⟨Q, by omega⟩
        simp only [Int.toNat_natCast] at *
        rw [this]
        constructor
        · rintro ⟨_, _, h | h⟩
          · omega
          · exact h
        · exact fun h => ⟨by omega, by omega, .inr h⟩
  · exact hp.elim

/-! ### Regions in a list -/

def Rg.has (r : Rg) (a : Int) : Bool := hasB r.b r.l r.o a
def Rg.lets (r : Rg) (n : Int) : Bool := letsB r.r r.w r.x n
def oneB (rs : List Rg) (a n : Int) : Bool := rs.foldl (fun ok r => if r.has a then r.lets n else ok) false
theorem oneB_snoc (rs : List Rg) (r : Rg) (a n : Int) : oneB (rs ++ [r]) a n = if r.has a then r.lets n else oneB rs a n := by simp [oneB]
theorem oneB_take {rs : List Rg} {i : Nat} {r : Rg} (h : rs[i]? = some r) (a n : Int) : oneB (rs.take (i + 1)) a n = if r.has a then r.lets n else oneB (rs.take i) a n := by
  rw [List.take_add_one, h]
  exact oneB_snoc _ _ _ _
theorem get_map {α β : Type} {f : α → β} {l : List α} {i : Nat} {a : α} (h : l[i]? = some a) : (l.map f)[i]? = some (f a) := by simp [h]
def regsOk (rs : List Rg) : Bool := rs.all Rg.ok
def allowB (rs : List Rg) (a s n : Int) : Bool := decide (rs.length ≤ 8) && widthB s && decide (1 ≤ n ∧ n ≤ 3) && regsOk rs && (List.range s.toNat).all fun i => oneB rs (a + i) n
theorem regsOk_take {rs : List Rg} {i : Nat} {r : Rg} (h : rs[i]? = some r) : regsOk (rs.take (i + 1)) = (regsOk (rs.take i) && r.ok) := by
  rw [List.take_add_one, h]
  simp [regsOk]
theorem oneB_out {rs : List Rg} (hok : regsOk rs = true) {a n : Int} (ha : a < 0 ∨ 262144 ≤ a) : oneB rs a n = false := by
  have key : ∀ (l : List Rg), (∀ r ∈ l, r ∈ rs) → l.foldl (fun ok r => if r.has a then r.lets n else ok) false = false := by
    intro l
    induction l with
    | nil => intro _; rfl
    | cons r l ih =>
      intro h
      have h1 := List.all_eq_true.1 hok r (h r List.mem_cons_self)
      obtain ⟨l5, l14, o0, o1, b0, b1⟩ := regOk_spec h1
      have h2 : r.has a = false := by
        simp only [Rg.has, hasB, decide_eq_false_iff_not]
        omega
      simp only [List.foldl_cons, h2]
      exact ih fun q hq => h q (List.mem_cons_of_mem _ hq)
  exact key rs fun _ h => h
theorem regsOk_mem {rs : List Rg} (h : regsOk rs = true) : ∀ r ∈ rs, r.ok = true := List.all_eq_true.1 h
def hAllow : CH := fun args hl K => match args, hl with
  | [.imm _ _ 6 L, .v (.int .i64 a), .v (.int .i64 s), .v (.int .i64 n)], [] => ∃ rs : List Rg, L = rs.map regC ∧ I64 a ∧ rs.length ≤ 1048576 ∧ K (.v (.bool (allowB rs a s n))) []
  | _, _ => False
def cxIAllow : Ctx := mkC [(238, callM [] true hSize), (239, callM [] false hReg), (240, callM [] false hHas), (241, callM [] false hLets)]
theorem cxIAllow_ok : CtxOk Tryz.prog cxIAllow := mkC_ok (mem1 ⟨s_goodSize, fnOk Tryz.func238 rfl rfl⟩ (mem1 ⟨s_impl_RegionOk, fnOk Tryz.func239 rfl rfl⟩ (mem1 ⟨s_has, fnOk Tryz.func240 rfl rfl⟩ (mem1 ⟨s_allows, fnOk Tryz.func241 rfl rfl⟩ mem0))))
set_option maxRecDepth 100000 in
set_option pp.maxSteps 1500 in
theorem s_impl_Allowed : HSound Tryz.prog 232 (callM [] true hAllow) := by
  refine callM_sound cxIAllow_ok mixed Tryz.func232 rfl fun args hl K hp => ?_
  unfold hAllow at hp
  split at hp
  · rename_i b z L a s n
    obtain ⟨rs, rfl, ha, hlen, hp⟩ := hp
    repeat' ((first | refine And.intro (fun h1 => ?_) (fun h1 => ?_) | refine And.intro (by decide) ?_ | refine And.intro (show wfB _ = true from by kernel_rfl) ?_ | refine And.intro (And.intro rfl rfl) ?_ | exact And.intro rfl rfl | apply HeldC.intro | exact AV.top | (apply HeldF.intro; refine Exists.intro _ (And.intro (by assumption) ?_); refine And.intro (by decide) ?_; exact And.intro rfl rfl) | (refine And.intro (by (refine Exists.intro _ (And.intro (by assumption) ?_); refine And.intro (by decide) ?_; exact And.intro rfl rfl)) ?_) | refine Or.inl ?_) <;> try cases h1)
    all_goals try (refine fin_b hp ?_; clear hp; simp [allowB] at *; first | omega | (intros; simp_all; done) | (intros; omega))
    rename_i q1 h2 q3
    have q4 := h1
    clear h1
    simp only [List.length_map, decide_eq_false_iff_not, Bool.not_eq_false'] at q1 h2 q3 q4
    simp only [I64] at ha
    have hs : s = 1 ∨ s = 2 ∨ s = 4 := by simpa [widthB] using h2
    have hcmp : ∀ q, regsOk rs = true → (allowB rs a s n = q ↔ ((List.range s.toNat).all fun i => oneB rs (a + i) n) = q) := by
      intro q hq
      simp only [allowB, h2, hq, Bool.and_true, Bool.true_and]
      rw [decide_eq_true (by omega), decide_eq_true (by omega)]
      simp
    refine Exists.intro true (Exists.intro [0, 1, 2, 3, 31, 32, 33] (Exists.intro (fun m vs h => ∃ i : Nat, i ≤ rs.length ∧ m = rs.length - i ∧ regsOk (rs.take i) = true ∧ vs = [.imm b z 6 (rs.map regC), .v (.int .i64 a), .v (.int .i64 s), .v (.int .i64 n), .imm b z 6 (rs.map regC), .v (.int .i64 rs.length), .v (.int .i64 i)] ∧ h = []) (And.intro ?_ ?_)))
    · refine Exists.intro [] (Exists.intro rs.length ?_)
      exact ⟨0, by omega, rfl, rfl, by rw [List.length_map]; rfl, rfl⟩
    · intro m vs h hI
      obtain ⟨i, hi, rfl, he, rfl, rfl⟩ := hI
      refine And.intro (fun h5 => ?_) (fun h5 => ?_)
      · simp only [decide_eq_true_eq] at h5
        have hr : rs[i]? = some rs[i] := List.getElem?_eq_getElem (by omega)
        generalize rs[i] = r at hr
        refine Exists.intro i (And.intro rfl (Exists.intro (regC r) (And.intro (get_map hr) ?_)))
        have hst := regsOk_take hr
        refine And.intro (fun h6 => ?_) (fun h6 => ?_)
        · refine fin_b hp ?_
          have h6 : r.ok = false := by simpa [Rg.ok] using h6
          have : regsOk rs = false := by
            rw [Bool.eq_false_iff]
            intro hq
            have := regsOk_mem hq r (List.mem_of_getElem? hr)
            rw [h6] at this
            cases this
          simp [allowB, this]
        · have h6 : r.ok = true := by simpa [Rg.ok] using h6
          refine Exists.intro [] (Exists.intro (rs.length - (i + 1)) (And.intro (by omega) ⟨i + 1, by omega, rfl, by rw [hst, he, h6]; rfl, ?_, rfl⟩))
          rw [wrap_succ (by omega : i < rs.length) (by omega)]
      · simp only [decide_eq_false_iff_not] at h5
        have hil : i = rs.length := by omega
        subst hil
        rw [List.take_length] at he
        repeat' ((first | refine And.intro (fun h1 => ?_) (fun h1 => ?_) | refine And.intro (by decide) ?_ | refine And.intro (show wfB _ = true from by kernel_rfl) ?_ | refine And.intro (And.intro rfl rfl) ?_ | exact And.intro rfl rfl | apply HeldC.intro | exact AV.top | (apply HeldF.intro; refine Exists.intro _ (And.intro (by assumption) ?_); refine And.intro (by decide) ?_; exact And.intro rfl rfl) | (refine And.intro (by (refine Exists.intro _ (And.intro (by assumption) ?_); refine And.intro (by decide) ?_; exact And.intro rfl rfl)) ?_) | refine Or.inl ?_) <;> try cases h1)
        · refine fin_b hp ?_
          simp only [decide_eq_true_eq] at *
          rw [hcmp _ he, List.all_eq_false]
          exact ⟨0, by simp; omega, by rw [oneB_out he (by omega)]; simp⟩
        · refine fin_b hp ?_
          simp only [decide_eq_true_eq] at *
          rw [hcmp _ he, List.all_eq_false]
          exact ⟨0, by simp; omega, by rw [oneB_out he (by omega)]; simp⟩
        rename_i h6
        have h7 := h1
        clear h1
        simp only [decide_eq_false_iff_not] at h6 h7
        obtain ⟨S, rfl⟩ := Int.eq_ofNat_of_zero_le (show 0 ≤ s by omega)
        refine Exists.intro true (Exists.intro [0, 1, 2, 3, 11] (Exists.intro (fun m vs h => ∃ i : Nat, i ≤ S ∧ m = S - i ∧ (∀ j < i, oneB rs (a + j) n = true) ∧ vs = [.imm b z 6 (rs.map regC), .v (.int .i64 a), .v (.int .i64 S), .v (.int .i64 n), .v (.int .i64 (a + i))] ∧ h = []) (And.intro ?_ ?_)))
        · refine Exists.intro [] (Exists.intro S ?_)
          exact ⟨0, by omega, rfl, fun j hj => by omega, by simp, rfl⟩
        · intro m vs h hI
          obtain ⟨i, hi, rfl, hj, rfl, rfl⟩ := hI
          have hw : IntKind.i64.wrap (a + S) = a + S := wrap64 (by omega)
          refine And.intro (fun h5 => ?_) (fun h5 => ?_)
          · simp only [decide_eq_true_eq, hw] at h5
            refine Exists.intro true (Exists.intro [0, 1, 2, 3, 11, 12, 55, 56, 57] (Exists.intro (fun m vs h => ∃ q : Nat, q ≤ rs.length ∧ m = rs.length - q ∧ vs = [.imm b z 6 (rs.map regC), .v (.int .i64 a), .v (.int .i64 S), .v (.int .i64 n), .v (.int .i64 (a + i)), .v (.bool (oneB (rs.take q) (a + i) n)), .imm b z 6 (rs.map regC), .v (.int .i64 rs.length), .v (.int .i64 q)] ∧ h = []) (And.intro ?_ ?_)))
            · refine Exists.intro [] (Exists.intro rs.length ?_)
              exact ⟨0, by omega, rfl, by rw [List.length_map]; rfl, rfl⟩
            · intro m vs h hI
              obtain ⟨q, hq, rfl, rfl, rfl⟩ := hI
              refine And.intro (fun h8 => ?_) (fun h8 => ?_)
              · simp only [decide_eq_true_eq] at h8
                have hr : rs[q]? = some rs[q] := List.getElem?_eq_getElem (by omega)
                have hk := regsOk_mem he _ (List.mem_of_getElem? hr)
                generalize rs[q] = r at hr hk
                refine Exists.intro q (And.intro rfl (Exists.intro (regC r) (And.intro (get_map hr) ?_)))
                refine And.intro hk (And.intro (by simp only [I64]; omega) ?_)
                have hw2 : IntKind.i64.wrap ((q : Int) + 1) = ((q + 1 : Nat) : Int) := wrap_succ (by omega : q < rs.length) (by omega)
                refine And.intro (fun h9 => ?_) (fun h9 => ?_)
                · refine Exists.intro [] (Exists.intro (rs.length - (q + 1)) (And.intro (by omega) ⟨q + 1, by omega, rfl, ?_, rfl⟩))
                  rw [hw2, oneB_take hr, if_pos (show r.has (a + i) = true from h9)]
                  rfl
                · refine Exists.intro [] (Exists.intro (rs.length - (q + 1)) (And.intro (by omega) ⟨q + 1, by omega, rfl, ?_, rfl⟩))
                  rw [hw2, oneB_take hr, if_neg (show ¬ r.has (a + i) = true by simpa [Rg.has] using h9)]
              · simp only [decide_eq_false_iff_not] at h8
                have hil : q = rs.length := by omega
                subst hil
                rw [List.take_length]
                refine And.intro (fun h9 => ?_) (fun h9 => ?_)
                · refine fin_b hp ?_
                  rw [hcmp _ he, List.all_eq_false]
                  exact ⟨i, by simp; omega, by simpa using h9⟩
                · refine Exists.intro [] (Exists.intro (S - (i + 1)) (And.intro (by omega) ⟨i + 1, by omega, rfl, fun j hj' => ?_, ?_, rfl⟩))
                  · rcases Nat.lt_or_ge j i with h | h
                    · exact hj j h
                    · have : j = i := by omega
                      subst this
                      simpa using h9
                  · rw [wrap64 (by omega), show a + (i : Int) + 1 = a + ((i + 1 : Nat) : Int) by omega]
          · simp only [decide_eq_false_iff_not, hw] at h5
            refine fin_b hp ?_
            rw [hcmp _ he, List.all_eq_true]
            exact fun j hj' => hj j (by simp at hj'; omega)
  · exact hp.elim
end Go.Proofs.YtbfjkjdbdejnmaaGreat.Ab

/- Slices of regions: laid, compared. No condition. -/
namespace Go.Proofs.YtbfjkjdbdejnmaaGreat.Ab

/-! ### Region: slices of plain structs (printed by gen/slice.py) -/

def zeroRegion : Rg := ⟨0, 0, 0, false, false, false⟩
theorem closed_Region (bs : List Rg) : ClosedL (bs.map regC) := by
  intro e he x hx
  obtain ⟨b, _, rfl⟩ := List.mem_map.1 he
  simp [regC] at hx
  rcases hx with rfl | rfl | rfl | rfl | rfl | rfl <;> rfl

theorem closed_app {a b : List (List AV)} (ha : ClosedL a) (hb : ClosedL b) : ClosedL (a ++ b) := fun e he => (List.mem_append.1 he).elim (ha e) (hb e)
theorem reg_notSl (r : Rg) : ∀ e ∈ [regC r], ∀ x ∈ e, x.isSl = false := by
  intro e he x hx
  simp at he
  subst he
  simp [regC] at hx
  rcases hx with rfl | rfl | rfl | rfl | rfl | rfl <;> rfl
end Go.Proofs.YtbfjkjdbdejnmaaGreat.Ab

/- Slices of regions: marked and found again. No condition. -/
namespace Go.Proofs.YtbfjkjdbdejnmaaGreat.Ab

theorem get_set {α : Type} {l : List α} {i : Nat} {a : α} (h : i < l.length) : (l.set i a)[i]? = some a := by simp [h]

end Go.Proofs.YtbfjkjdbdejnmaaGreat.Ab

/- Slices of whole numbers: laid, compared, measured. No condition. -/
namespace Go.Proofs.YtbfjkjdbdejnmaaGreat.Ab
set_option linter.unusedVariables false
set_option linter.unusedSimpArgs false

theorem lendL {α : Type} (C : α → List AV) (l : List α) : List.take l.length (List.map C l) = l.map C := by rw [← List.length_map (f := C), List.take_length]
theorem lendD {α : Type} (C : α → List AV) (l : List α) : List.take l.length (List.drop 0 (List.map C l)) = l.map C := by rw [List.drop_zero]; exact lendL C l
theorem sum_take {α : Type} {f : α → Nat} {l : List α} {i : Nat} {a : α} (h : l[i]? = some a) : ((l.take (i + 1)).map f).sum = ((l.take i).map f).sum + f a := by
  rw [List.take_add_one, h]
  simp
theorem sum_take_le {α : Type} (f : α → Nat) (l : List α) (i : Nat) : ((l.take i).map f).sum ≤ (l.map f).sum := by
  have h : (l.map f).sum = ((l.take i ++ l.drop i).map f).sum := by rw [List.take_append_drop]
  rw [h, List.map_append, List.sum_append]
  exact Nat.le_add_right _ _
theorem szB_neg {n : Int} {a : Nat} (h : n < a) : szB n a = -1 := if_pos (by omega)
theorem szB_pos {n : Int} {a : Nat} (h : a ≤ n) : szB n a = n - a := if_neg (by omega)
theorem szB_lt {n : Int} {a : Nat} (h0 : 0 ≤ n) (h : szB n a < 0) : n < a := by
  rcases Int.lt_or_le n a with q | q
  · exact q
  · rw [szB_pos q] at h; omega
theorem szB_ge {n : Int} {a : Nat} (h0 : 0 ≤ n) (h : ¬ szB n a < 0) : a ≤ n := by
  rcases Int.lt_or_le n a with q | q
  · rw [szB_neg q] at h; omega
  · exact q

def cx_s_szIntS : Ctx := mkC []
theorem cx_s_szIntS_ok : CtxOk Tryz.prog cx_s_szIntS := cx0_ok
set_option maxRecDepth 100000 in
set_option pp.maxSteps 1500 in
theorem s_szIntS : HSound Tryz.prog 35 (callM [] true hSzB) := by
  refine callM_sound cx_s_szIntS_ok mixed Tryz.func35 rfl fun args hl K hp => ?_
  unfold hSzB at hp
  split at hp
  · rename_i l n
    obtain ⟨h0, h1, h2, hp⟩ := hp
    have hw : IntKind.i64.wrap (n - l.length) = n - l.length := wrap64 (by omega)
    repeat' ((first | refine And.intro (fun h1 => ?_) (fun h1 => ?_) | refine And.intro (by decide) ?_ | refine And.intro (show wfB _ = true from by kernel_rfl) ?_ | refine And.intro (And.intro rfl rfl) ?_ | exact And.intro rfl rfl | apply HeldC.intro | exact AV.top | (apply HeldF.intro; refine Exists.intro _ (And.intro (by assumption) ?_); refine And.intro (by decide) ?_; exact And.intro rfl rfl) | (refine And.intro (by (refine Exists.intro _ (And.intro (by assumption) ?_); refine And.intro (by decide) ?_; exact And.intro rfl rfl)) ?_) | refine Or.inl ?_) <;> try cases h1)
    all_goals refine fin_i hp ?_
    all_goals clear hp
    all_goals rw [hw] at *
    all_goals simp only [szB, decide_eq_true_eq, decide_eq_false_iff_not] at *
    all_goals split <;> omega
  · exact hp.elim
/-! ### Int: slices of scalars: laid, compared (printed by gen/scal.py) -/

theorem closed_Int (bs : List Int) : ClosedL (bs.map intC) := by
  intro e he x hx
  obtain ⟨b, _, rfl⟩ := List.mem_map.1 he
  simp [intC] at hx
  subst hx
  rfl
def hToInt : CH := fun args hl K => match args, hl with
  | [.imm _ _ 1 l], [] => ∃ bs : List Int, l = bs.map intC ∧ bs.length ≤ 1048576 ∧ K (.slc 0 0 bs.length false) [.lst 1 (bs.map intC)]
  | _, _ => False
def cx_s_toIntS : Ctx := mkC []
theorem cx_s_toIntS_ok : CtxOk Tryz.prog cx_s_toIntS := cx0_ok
set_option maxRecDepth 100000 in
set_option pp.maxSteps 1500 in
theorem s_toIntS : HSound Tryz.prog 41 (callM [] true hToInt) := by
  refine callM_sound cx_s_toIntS_ok mixed Tryz.func41 rfl fun args hl K hp => ?_
  unfold hToInt at hp
  split at hp
  · rename_i t z l
    obtain ⟨bs, rfl, hb, hp⟩ := hp
    refine Or.inl ?_
    refine Exists.intro bs.length (And.intro (by simp) (And.intro (by simp) (And.intro (by simp only; omega) ?_)))
    refine Exists.intro false (Exists.intro [0, 3, 4] (Exists.intro (fun m vs h => ∃ i : Nat, i ≤ bs.length ∧ m = bs.length - i ∧ vs = [.imm t z 1 (bs.map intC), .slc 0 0 bs.length true, .v (.int .i64 i)] ∧ h = [.lst 1 ((bs.take i).map intC ++ List.replicate (bs.length - i) (intC 0))]) (And.intro ?_ ?_)))
    · refine Exists.intro bs.length ?_
      exact ⟨0, by omega, rfl, rfl, rfl⟩
    · intro m vs h hI
      obtain ⟨i, hi, rfl, rfl, rfl⟩ := hI
      refine And.intro (fun h1 => ?_) (fun h1 => ?_)
      · simp only [decide_eq_true_eq, List.length_map] at h1
        have hlt : i < bs.length := by omega
        obtain ⟨b, hbi⟩ : ∃ b, bs[i]? = some b := ⟨_, List.getElem?_eq_getElem hlt⟩
        refine Exists.intro i (And.intro rfl (Exists.intro (intC b) (And.intro (by simp [hbi]) ?_)))
        refine Exists.intro i (And.intro rfl (And.intro hlt ?_))
        refine Exists.intro (intC 0) (And.intro (by rw [Nat.zero_add, List.getElem?_append_right (by simp; omega), List.getElem?_replicate, if_pos (by simp; omega)]) (And.intro (by decide) ?_))
        refine Exists.intro (bs.length - (i + 1)) (And.intro (by omega) ?_)
        refine ⟨i + 1, by omega, rfl, ?_, ?_⟩
        · rw [← wrap_succ hlt (by omega)]
        · rw [← fill_step intC (intC 0) bs i b hbi, Nat.zero_add]
          rfl
      · simp only [decide_eq_false_iff_not, List.length_map] at h1
        have : i = bs.length := by omega
        subst this
        have e : (bs.take bs.length).map intC ++ List.replicate (bs.length - bs.length) (intC 0) = bs.map intC := by simp
        rw [← e] at hp
        refine And.intro (e ▸ closed_Int bs) ?_
        exact hp
  · exact hp.elim

def hEqInt : CH := fun args hl K => match args, hl with
  | [.imm _ _ 1 l, .imm _ _ 1 r], [] => ∃ bs : List Int, l = bs.map intC ∧ r = bs.map intC ∧ bs.length ≤ 1048576 ∧ K (.v (.bool true)) []
  | _, _ => False
def cx_s_eqIntS : Ctx := mkC []
theorem cx_s_eqIntS_ok : CtxOk Tryz.prog cx_s_eqIntS := cx0_ok
set_option maxRecDepth 100000 in
set_option pp.maxSteps 1500 in
theorem s_eqIntS : HSound Tryz.prog 47 (callM [] true hEqInt) := by
  refine callM_sound cx_s_eqIntS_ok mixed Tryz.func47 rfl fun args hl K hp => ?_
  unfold hEqInt at hp
  split at hp
  · rename_i t z l t' z' r
    obtain ⟨bs, rfl, rfl, hb, hp⟩ := hp
    refine And.intro (fun h1 => ?_) (fun h1 => ?_)
    · simp at h1
    clear h1
    refine Exists.intro false (Exists.intro [0, 1, 5] (Exists.intro (fun m vs h => ∃ i : Nat, i ≤ bs.length ∧ m = bs.length - i ∧ vs = [.imm t z 1 (bs.map intC), .imm t' z' 1 (bs.map intC), .v (.int .i64 i)] ∧ h = []) (And.intro ?_ ?_)))
    · refine Exists.intro bs.length ?_
      exact ⟨0, by omega, rfl, rfl, rfl⟩
    · intro m vs h hI
      obtain ⟨i, hi, rfl, rfl, rfl⟩ := hI
      refine And.intro (fun h1 => ?_) (fun h1 => ?_)
      · simp only [decide_eq_true_eq, List.length_map] at h1
        have hlt : i < bs.length := by omega
        obtain ⟨b, hbi⟩ : ∃ b, bs[i]? = some b := ⟨_, List.getElem?_eq_getElem hlt⟩
        refine And.intro (by kernel_rfl) ?_
        refine Exists.intro i (And.intro rfl (Exists.intro (intC b) (And.intro (by simp [hbi]) ?_)))
        refine Exists.intro i (And.intro rfl (Exists.intro (intC b) (And.intro (by simp [hbi]) ?_)))
        refine And.intro (fun h1 => ?_) (fun h1 => ?_)
        · exfalso; simp at h1
        · refine Exists.intro (bs.length - (i + 1)) (And.intro (by omega) ?_)
          refine ⟨i + 1, by omega, rfl, ?_, rfl⟩
          have hw2 : IntKind.wrap .i64 ((i : Int) + 1) = ((i + 1 : Nat) : Int) := by
            rw [wrap64] <;> omega
          rw [← hw2]
      · exact hp
  · exact hp.elim

end Go.Proofs.YtbfjkjdbdejnmaaGreat.Ab

/- Modules as trees: their slices laid, compared, measured. No condition. -/
namespace Go.Proofs.YtbfjkjdbdejnmaaGreat.Ab
set_option linter.unusedVariables false
set_option linter.unusedSimpArgs false

structure Ex where
  n : ByteArray
  bank : Int
  pos : Int
def exC (e : Ex) : List AV := [.v (.string e.n), .v (.int .i64 e.bank), .v (.int .i64 e.pos)]
def strC (s : ByteArray) : List AV := [.v (.string s)]
def bankC (b : List Int) : List AV := [.sl 1 (b.map intC)]
/-! ### String: slices of scalars: laid, compared (printed by gen/scal.py) -/

theorem closed_String (bs : List ByteArray) : ClosedL (bs.map strC) := by
  intro e he x hx
  obtain ⟨b, _, rfl⟩ := List.mem_map.1 he
  simp [strC] at hx
  subst hx
  rfl
def hToString : CH := fun args hl K => match args, hl with
  | [.imm _ _ 1 l], [] => ∃ bs : List ByteArray, l = bs.map strC ∧ bs.length ≤ 1048576 ∧ K (.slc 0 0 bs.length false) [.lst 1 (bs.map strC)]
  | _, _ => False
def cx_s_toStringS : Ctx := mkC []
theorem cx_s_toStringS_ok : CtxOk Tryz.prog cx_s_toStringS := cx0_ok
set_option maxRecDepth 100000 in
set_option pp.maxSteps 1500 in
theorem s_toStringS : HSound Tryz.prog 97 (callM [] true hToString) := by
  refine callM_sound cx_s_toStringS_ok mixed Tryz.func97 rfl fun args hl K hp => ?_
  unfold hToString at hp
  split at hp
  · rename_i t z l
    obtain ⟨bs, rfl, hb, hp⟩ := hp
    refine Or.inl ?_
    refine Exists.intro bs.length (And.intro (by simp) (And.intro (by simp) (And.intro (by simp only; omega) ?_)))
    refine Exists.intro false (Exists.intro [0, 3, 4] (Exists.intro (fun m vs h => ∃ i : Nat, i ≤ bs.length ∧ m = bs.length - i ∧ vs = [.imm t z 1 (bs.map strC), .slc 0 0 bs.length true, .v (.int .i64 i)] ∧ h = [.lst 1 ((bs.take i).map strC ++ List.replicate (bs.length - i) (strC .empty))]) (And.intro ?_ ?_)))
    · refine Exists.intro bs.length ?_
      exact ⟨0, by omega, rfl, rfl, rfl⟩
    · intro m vs h hI
      obtain ⟨i, hi, rfl, rfl, rfl⟩ := hI
      refine And.intro (fun h1 => ?_) (fun h1 => ?_)
      · simp only [decide_eq_true_eq, List.length_map] at h1
        have hlt : i < bs.length := by omega
        obtain ⟨b, hbi⟩ : ∃ b, bs[i]? = some b := ⟨_, List.getElem?_eq_getElem hlt⟩
        refine Exists.intro i (And.intro rfl (Exists.intro (strC b) (And.intro (by simp [hbi]) ?_)))
        refine Exists.intro i (And.intro rfl (And.intro hlt ?_))
        refine Exists.intro (strC .empty) (And.intro (by rw [Nat.zero_add, List.getElem?_append_right (by simp; omega), List.getElem?_replicate, if_pos (by simp; omega)]) (And.intro (by decide) ?_))
        refine Exists.intro (bs.length - (i + 1)) (And.intro (by omega) ?_)
        refine ⟨i + 1, by omega, rfl, ?_, ?_⟩
        · rw [← wrap_succ hlt (by omega)]
        · rw [← fill_step strC (strC .empty) bs i b hbi, Nat.zero_add]
          rfl
      · simp only [decide_eq_false_iff_not, List.length_map] at h1
        have : i = bs.length := by omega
        subst this
        have e : (bs.take bs.length).map strC ++ List.replicate (bs.length - bs.length) (strC .empty) = bs.map strC := by simp
        rw [← e] at hp
        refine And.intro (e ▸ closed_String bs) ?_
        exact hp
  · exact hp.elim

def hEqString : CH := fun args hl K => match args, hl with
  | [.imm _ _ 1 l, .imm _ _ 1 r], [] => ∃ bs : List ByteArray, l = bs.map strC ∧ r = bs.map strC ∧ bs.length ≤ 1048576 ∧ K (.v (.bool true)) []
  | _, _ => False
def cx_s_eqStringS : Ctx := mkC []
theorem cx_s_eqStringS_ok : CtxOk Tryz.prog cx_s_eqStringS := cx0_ok
set_option maxRecDepth 100000 in
set_option pp.maxSteps 1500 in
theorem s_eqStringS : HSound Tryz.prog 105 (callM [] true hEqString) := by
  refine callM_sound cx_s_eqStringS_ok mixed Tryz.func105 rfl fun args hl K hp => ?_
  unfold hEqString at hp
  split at hp
  · rename_i t z l t' z' r
    obtain ⟨bs, rfl, rfl, hb, hp⟩ := hp
    refine And.intro (fun h1 => ?_) (fun h1 => ?_)
    · simp at h1
    clear h1
    refine Exists.intro false (Exists.intro [0, 1, 5] (Exists.intro (fun m vs h => ∃ i : Nat, i ≤ bs.length ∧ m = bs.length - i ∧ vs = [.imm t z 1 (bs.map strC), .imm t' z' 1 (bs.map strC), .v (.int .i64 i)] ∧ h = []) (And.intro ?_ ?_)))
    · refine Exists.intro bs.length ?_
      exact ⟨0, by omega, rfl, rfl, rfl⟩
    · intro m vs h hI
      obtain ⟨i, hi, rfl, rfl, rfl⟩ := hI
      refine And.intro (fun h1 => ?_) (fun h1 => ?_)
      · simp only [decide_eq_true_eq, List.length_map] at h1
        have hlt : i < bs.length := by omega
        obtain ⟨b, hbi⟩ : ∃ b, bs[i]? = some b := ⟨_, List.getElem?_eq_getElem hlt⟩
        refine And.intro (by kernel_rfl) ?_
        refine Exists.intro i (And.intro rfl (Exists.intro (strC b) (And.intro (by simp [hbi]) ?_)))
        refine Exists.intro i (And.intro rfl (Exists.intro (strC b) (And.intro (by simp [hbi]) ?_)))
        refine And.intro (fun h1 => ?_) (fun h1 => ?_)
        · exfalso; simp at h1
        · refine Exists.intro (bs.length - (i + 1)) (And.intro (by omega) ?_)
          refine ⟨i + 1, by omega, rfl, ?_, rfl⟩
          have hw2 : IntKind.wrap .i64 ((i : Int) + 1) = ((i + 1 : Nat) : Int) := by
            rw [wrap64] <;> omega
          rw [← hw2]
      · exact hp
  · exact hp.elim

/-! ### Export: slices of plain structs (printed by gen/slice.py) -/

def zeroExport : Ex := ⟨.empty, 0, 0⟩
theorem closed_Export (bs : List Ex) : ClosedL (bs.map exC) := by
  intro e he x hx
  obtain ⟨b, _, rfl⟩ := List.mem_map.1 he
  simp [exC] at hx
  rcases hx with rfl | rfl | rfl <;> rfl
def hConvExport : CH := fun args hl K => match args, hl with
  | [.agg [.v a0, .v a1, .v a2]], [] => K (.agg [.v a0, .v a1, .v a2]) []
  | _, _ => False
def cx_s_toExport : Ctx := mkC []
theorem cx_s_toExport_ok : CtxOk Tryz.prog cx_s_toExport := cx0_ok
set_option maxRecDepth 100000 in
set_option pp.maxSteps 1500 in
theorem s_toExport : HSound Tryz.prog 144 (callM [] false hConvExport) := by
  refine callM_sound cx_s_toExport_ok mixed Tryz.func144 rfl fun args hl K hp => ?_
  unfold hConvExport at hp
  split at hp
  · exact hp
  · exact hp.elim

def hToExport : CH := fun args hl K => match args, hl with
  | [.imm _ _ 3 l], [] => ∃ bs : List Ex, l = bs.map exC ∧ bs.length ≤ 1048576 ∧ K (.slc 0 0 bs.length false) [.lst 3 (bs.map exC)]
  | _, _ => False
def cx_s_toExportS : Ctx := mkC [(144, callM [] false hConvExport)]
theorem cx_s_toExportS_ok : CtxOk Tryz.prog cx_s_toExportS := mkC_ok (mem1 ⟨s_toExport, fnOk Tryz.func144 rfl rfl⟩ mem0)
set_option maxRecDepth 100000 in
set_option pp.maxSteps 1500 in
theorem s_toExportS : HSound Tryz.prog 98 (callM [] true hToExport) := by
  refine callM_sound cx_s_toExportS_ok mixed Tryz.func98 rfl fun args hl K hp => ?_
  unfold hToExport at hp
  split at hp
  · rename_i t z l
    obtain ⟨bs, rfl, hb, hp⟩ := hp
    refine Or.inl ?_
    refine Exists.intro bs.length (And.intro (by simp) (And.intro (by simp) (And.intro (by simp only; omega) ?_)))
    refine Exists.intro false (Exists.intro [0, 3, 4] (Exists.intro (fun m vs h => ∃ i : Nat, i ≤ bs.length ∧ m = bs.length - i ∧ vs = [.imm t z 3 (bs.map exC), .slc 0 0 bs.length true, .v (.int .i64 i)] ∧ h = [.lst 3 ((bs.take i).map exC ++ List.replicate (bs.length - i) (exC zeroExport))]) (And.intro ?_ ?_)))
    · refine Exists.intro bs.length ?_
      exact ⟨0, by omega, rfl, rfl, rfl⟩
    · intro m vs h hI
      obtain ⟨i, hi, rfl, rfl, rfl⟩ := hI
      refine And.intro (fun h1 => ?_) (fun h1 => ?_)
      · simp only [decide_eq_true_eq, List.length_map] at h1
        have hlt : i < bs.length := by omega
        obtain ⟨b, hbi⟩ : ∃ b, bs[i]? = some b := ⟨_, List.getElem?_eq_getElem hlt⟩
        refine Exists.intro i (And.intro rfl (Exists.intro (exC b) (And.intro (by simp [hbi]) ?_)))
        refine Exists.intro i (And.intro rfl (And.intro hlt ?_))
        refine Exists.intro (exC zeroExport) (And.intro (by rw [Nat.zero_add, List.getElem?_append_right (by simp; omega), List.getElem?_replicate, if_pos (by simp; omega)]) (And.intro (by decide) ?_))
        refine Exists.intro (bs.length - (i + 1)) (And.intro (by omega) ?_)
        refine ⟨i + 1, by omega, rfl, ?_, ?_⟩
        · rw [← wrap_succ hlt (by omega)]
        · rw [← fill_step exC (exC zeroExport) bs i b hbi, Nat.zero_add]
          rfl
      · simp only [decide_eq_false_iff_not, List.length_map] at h1
        have : i = bs.length := by omega
        subst this
        have e : (bs.take bs.length).map exC ++ List.replicate (bs.length - bs.length) (exC zeroExport) = bs.map exC := by simp
        rw [← e] at hp
        refine And.intro (e ▸ closed_Export bs) ?_
        exact hp
  · exact hp.elim

def cx_iEqExport : Ctx := mkC []
theorem cx_iEqExport_ok : CtxOk Tryz.prog cx_iEqExport := cx0_ok
def iEqExport : Handler := inlH cx_iEqExport Tryz.f154.ntmps Tryz.f154.results.toList (Tryz.f154.body.getD .skip)
theorem s_iEqExport : HSound Tryz.prog 154 iEqExport := inlF cx_iEqExport_ok mixed Tryz.func154 rfl
def hEqExport : CH := fun args hl K => match args, hl with
  | [.imm _ _ 3 l, .imm _ _ 3 r], [] => ∃ bs : List Ex, l = bs.map exC ∧ r = bs.map exC ∧ bs.length ≤ 1048576 ∧ K (.v (.bool true)) []
  | _, _ => False
def cx_s_eqExportS : Ctx := mkC [(154, iEqExport)]
theorem cx_s_eqExportS_ok : CtxOk Tryz.prog cx_s_eqExportS := mkC_ok (mem1 ⟨s_iEqExport, fnOk Tryz.func154 rfl rfl⟩ mem0)
set_option maxRecDepth 100000 in
set_option pp.maxSteps 1500 in
theorem s_eqExportS : HSound Tryz.prog 106 (callM [] true hEqExport) := by
  refine callM_sound cx_s_eqExportS_ok mixed Tryz.func106 rfl fun args hl K hp => ?_
  unfold hEqExport at hp
  split at hp
  · rename_i t z l t' z' r
    obtain ⟨bs, rfl, rfl, hb, hp⟩ := hp
    refine And.intro (fun h1 => ?_) (fun h1 => ?_)
    · simp at h1
    · clear h1
      refine Exists.intro true (Exists.intro [0, 1, 5] (Exists.intro (fun m vs h => ∃ i : Nat, i ≤ bs.length ∧ m = bs.length - i ∧ vs = [.imm t z 3 (bs.map exC), .imm t' z' 3 (bs.map exC), .v (.int .i64 i)] ∧ h = []) (And.intro ?_ ?_)))
      · refine Exists.intro [] (Exists.intro bs.length ?_)
        exact ⟨0, by omega, rfl, rfl, rfl⟩
      · intro m vs h hI
        obtain ⟨i, hi, rfl, rfl, rfl⟩ := hI
        refine And.intro (fun h1 => ?_) (fun h1 => ?_)
        · simp only [decide_eq_true_eq, List.length_map] at h1
          have hlt : i < bs.length := by omega
          obtain ⟨b, hbi⟩ : ∃ b, bs[i]? = some b := ⟨_, List.getElem?_eq_getElem hlt⟩
          refine Or.inl ?_
          refine And.intro (show wfB _ = true from by kernel_rfl) ?_
          refine Exists.intro i (And.intro rfl (Exists.intro (exC b) (And.intro (get_map hbi) ?_)))
          refine Exists.intro i (And.intro rfl (Exists.intro (exC b) (And.intro (get_map hbi) ?_)))
          apply HeldC.intro
          · repeat' (first | refine And.intro (fun h1 => absurd h1 (by simp; done)) (fun h1 => ?_) | exact And.intro rfl rfl)
          repeat' (first
            | refine And.intro (fun h1 => ?_) (fun h1 => ?_)
            | refine And.intro (Exists.intro i (And.intro rfl (Exists.intro (exC b) (And.intro (get_map hbi) (And.intro rfl rfl))))) ?_
            | refine And.intro (And.intro rfl rfl) ?_)
          · cases h1
          · refine Exists.intro [] (Exists.intro (bs.length - (i + 1)) (And.intro (by omega) ?_))
            exact ⟨i + 1, by omega, rfl, by rw [wrap_succ hlt (by omega)], rfl⟩
        · exact hp
  · exact hp.elim

def bigStr (s : ByteArray) : Prop := s.size ≤ maxLen
/-! ### String: the size of a slice with what its elements hold (printed by gen/szl.py) -/

def wtString (bs : List ByteArray) : Nat := bs.length + (bs.map ByteArray.size).sum
def hSzString : CH := fun args hl K => match args, hl with
  | [.imm _ _ 1 l, .v (.int .i64 n)], [] => ∃ bs : List ByteArray, l = bs.map strC ∧ (∀ b ∈ bs, bigStr b) ∧ bs.length ≤ maxLen ∧ 0 ≤ n ∧ n ≤ 1048576 ∧ K (.v (.int .i64 (szB n (wtString bs)))) []
  | _, _ => False
def cx_s_szStringS : Ctx := mkC []
theorem cx_s_szStringS_ok : CtxOk Tryz.prog cx_s_szStringS := cx0_ok
set_option maxRecDepth 100000 in
set_option pp.maxSteps 1500 in
theorem s_szStringS : HSound Tryz.prog 84 (callM [] true hSzString) := by
  refine callM_sound cx_s_szStringS_ok mixed Tryz.func84 rfl fun args hl K hp => ?_
  unfold hSzString at hp
  split at hp
  · rename_i t z l n
    obtain ⟨bs, rfl, hbig, hlen, hn0, hn1, hp⟩ := hp
    have hml : maxLen ≤ 9223372036854775807 := by decide
    have hw : IntKind.i64.wrap (n - ((bs.map strC).length : Int)) = n - bs.length := by rw [List.length_map]; exact wrap64 (by omega)
    refine And.intro (fun h1 => ?_) (fun h1 => ?_)
    · have h1 := of_decide_eq_true h1
      rw [hw] at h1
      refine fin_i hp ?_
      rw [szB_neg (by simp only [wtString]; omega)]
    have h1 := of_decide_eq_false h1
    refine Exists.intro false (Exists.intro [0, 1, 5] (Exists.intro (fun m vs h => ∃ i : Nat, i ≤ bs.length ∧ m = bs.length - i ∧ 0 ≤ n - bs.length - ((bs.take i).map ByteArray.size).sum ∧ vs = [.imm t z 1 (bs.map strC), .v (.int .i64 (n - bs.length - ((bs.take i).map ByteArray.size).sum)), .v (.int .i64 i)] ∧ h = []) (And.intro ?_ ?_)))
    · refine Exists.intro bs.length ?_
      refine ⟨0, by omega, rfl, ?_, ?_, rfl⟩
      · rw [hw] at h1; simp; omega
      · rw [hw]; simp
    · rw [hw] at h1
      clear hw
      intro m vs h hI
      obtain ⟨i, hi, rfl, hs0, rfl, rfl⟩ := hI
      refine And.intro (fun h2 => ?_) (fun h2 => ?_)
      · simp only [decide_eq_true_eq, List.length_map] at h2
        have hlt : i < bs.length := by omega
        obtain ⟨b, hbi⟩ : ∃ b, bs[i]? = some b := ⟨_, List.getElem?_eq_getElem hlt⟩
        have hbb := hbig b (List.mem_of_getElem? hbi)
        have hst := sum_take (f := ByteArray.size) hbi
        have hle := sum_take_le ByteArray.size bs (i + 1)
        generalize hS : ((bs.take i).map ByteArray.size).sum = S at *
        generalize hS1 : ((bs.take (i + 1)).map ByteArray.size).sum = S1 at *
        have hlt2 : i < (bs.length : Int) := by omega
        refine Exists.intro i (And.intro rfl (Exists.intro (strC b) (And.intro (get_map hbi) ?_)))
        simp only [bigStr] at hbb
        have hww : IntKind.i64.wrap (n - ↑bs.length - ↑S - (b.size : Int)) = n - bs.length - S - (b.size : Int) := wrap64 (by omega)
        refine And.intro (fun h3 => ?_) (fun h3 => ?_)
        · have h3 := of_decide_eq_true h3
          refine fin_i hp ?_
          rw [hww] at h3
          rw [szB_neg (by simp only [wtString]; omega)]
        · have h3 := of_decide_eq_false h3
          refine Exists.intro (bs.length - (i + 1)) (And.intro (by omega) ?_)
          rw [hww] at h3
          refine ⟨i + 1, by omega, rfl, ?_, ?_, rfl⟩
          · rw [hS1]; omega
          · rw [wrap_succ hlt (by omega), hS1, show n - (bs.length : Int) - (S1 : Int) = n - bs.length - S - (ByteArray.size b : Nat) by omega]
            rw [hww]
      · simp only [decide_eq_false_iff_not, List.length_map] at h2
        have : i = bs.length := by omega
        subst this
        rw [List.take_length] at hs0 ⊢
        refine fin_i hp ?_
        rw [szB_pos (by simp only [wtString]; omega)]
        simp only [wtString]
        omega
  · exact hp.elim

end Go.Proofs.YtbfjkjdbdejnmaaGreat.Ab
