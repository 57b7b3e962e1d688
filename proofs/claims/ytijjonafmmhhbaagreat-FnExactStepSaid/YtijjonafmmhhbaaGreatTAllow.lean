/- Allowed: what a region has and lets. No condition. -/
import Derived.Test.YtijjonafmmhhbaaGreatTRegion
import Derived.Test.YtijjonafmmhhbaaGreatTRead
namespace Go.Proofs.YtijjonafmmhhbaaGreat.Ab

structure Rg where
  b : Int
  l : Int
  o : Int
  r : Bool
  w : Bool
  x : Bool
def regC (r : Rg) : List AV := [.v (.int .i64 r.b), .v (.int .i64 r.l), .v (.int .i64 r.o), .v (.bool r.r), .v (.bool r.w), .v (.bool r.x)]
def Rg.ok (r : Rg) : Bool := regOk r.b r.l r.o
def partB (b l a : Int) : Int := (a - b) / (2 ^ l.toNat / 8)
def hasB (b l o a : Int) : Bool := decide (b ≤ a ∧ a < b + 2 ^ l.toNat ∧ (l < 8 ∨ o / 2 ^ (partB b l a).toNat % 2 = 0))
def letsB (r w x : Bool) (n : Int) : Bool := if n = 1 then r else if n = 2 then w else x
theorem regOk_spec {b l o : Int} (h : regOk b l o = true) : 5 ≤ l ∧ l ≤ 14 ∧ 0 ≤ o ∧ o ≤ 255 ∧ 0 ≤ b ∧ b ≤ 262144 - 2 ^ l.toNat := by
  simp only [regOk, decide_eq_true_eq] at h
  omega
/-- The eight parts of a region. -/
theorem part_spec {b l a : Int} (h1 : 5 ≤ l) (h2 : l ≤ 14) (h3 : b ≤ a) (h4 : a < b + 2 ^ l.toNat) : 0 ≤ partB b l a ∧ partB b l a ≤ 7 := by
  have hl : l = 5 ∨ l = 6 ∨ l = 7 ∨ l = 8 ∨ l = 9 ∨ l = 10 ∨ l = 11 ∨ l = 12 ∨ l = 13 ∨ l = 14 := by omega
  rcases hl with rfl | rfl | rfl | rfl | rfl | rfl | rfl | rfl | rfl | rfl <;> simp [partB] at * <;> omega
def hHas : CH := fun args hl K => match args, hl with
  | [.agg [.v (.int .i64 b), .v (.int .i64 l), .v (.int .i64 o), .v _, .v _, .v _], .v (.int .i64 a)], [] => regOk b l o = true ∧ I64 a ∧ K (.v (.bool (hasB b l o a))) []
  | _, _ => False
def cxHas : Ctx := mkC [(66, callM [] false hPw)]
theorem cxHas_ok : CtxOk Tryz.prog cxHas := mkC_ok (mem1 ⟨s_l2Pow2, fnOk Tryz.func66 rfl rfl⟩ mem0)
set_option maxRecDepth 100000 in
set_option maxHeartbeats 0 in
set_option pp.maxSteps 1500 in
theorem s_l2Has : HSound Tryz.prog 104 (callM [] false hHas) := by
  refine callM_sound cxHas_ok mixed Tryz.func104 rfl fun args hl K hp => ?_
  unfold hHas at hp
  split at hp
  · rename_i b l o _ _ _ a
    obtain ⟨hr, ha, hp⟩ := hp
    obtain ⟨l5, l14, o0, o1, b0, b1⟩ := regOk_spec hr
    obtain ⟨p0, p1⟩ := pow14 l5 l14
    simp only [I64] at ha
    have w1 : IntKind.i64.wrap (b + 2 ^ l.toNat) = b + 2 ^ l.toNat := wrap64 (by omega)
    refine And.intro (by omega) (And.intro (by omega) ?_)
    repeat' ((first | refine And.intro (fun h1 => ?_) (fun h1 => ?_) | refine And.intro (by decide) ?_ | refine Or.inl ?_) <;> try cases h1)
    all_goals try (refine fin_b hp ?_; clear hp; simp [hasB] at *; omega)
    have hba : b ≤ a ∧ a < b + 2 ^ l.toNat := by
      simp only [decide_eq_false_iff_not] at *
      omega
    have hl8 : 8 ≤ l := by
      simp only [decide_eq_false_iff_not] at *
      omega
    have hp8 : (2 : Int) ^ l.toNat = 8 * (2 ^ l.toNat / 8) := by
      have : (2 : Int) ^ l.toNat = 8 * 2 ^ (l.toNat - 3) := by
        rw [show (8 : Int) = 2 ^ 3 by rfl, ← Int.pow_add]
        congr 1
        omega
      omega
    obtain ⟨q0, q1⟩ := part_spec l5 l14 hba.1 hba.2
    have e8 : IntKind.i64.wrap ((2 ^ l.toNat : Int).tdiv 8) = 2 ^ l.toNat / 8 := by
      rw [Int.tdiv_eq_ediv_of_nonneg (by omega), wrap64 (by omega)]
    have ep : IntKind.i64.wrap ((IntKind.i64.wrap (a - b)).tdiv (IntKind.i64.wrap ((2 ^ l.toNat : Int).tdiv 8))) = partB b l a := by
      rw [e8, wrap64 (x := a - b) (by omega), Int.tdiv_eq_ediv_of_nonneg (by omega)]
      exact wrap64 (by simp only [partB] at *; omega)
    refine And.intro (by rw [e8]; omega) ?_
    have hpos : (0 : Int) < 2 ^ (partB b l a).toNat := Int.pow_pos (by omega)
    have g1 : 0 ≤ IntKind.i64.wrap ((IntKind.i64.wrap (a - b)).tdiv (IntKind.i64.wrap ((2 ^ l.toNat : Int).tdiv 8))) := by rw [ep]; omega
    have g2 : IntKind.i64.wrap ((IntKind.i64.wrap (a - b)).tdiv (IntKind.i64.wrap ((2 ^ l.toNat : Int).tdiv 8))) ≤ 62 := by rw [ep]; omega
    have g3 : (2 : Int) ^ (IntKind.i64.wrap ((IntKind.i64.wrap (a - b)).tdiv (IntKind.i64.wrap ((2 ^ l.toNat : Int).tdiv 8)))).toNat ≠ 0 := by rw [ep]; omega
    repeat' ((first | refine And.intro (fun h1 => ?_) (fun h1 => ?_) | refine And.intro (by first | decide | omega | ((first | exact g1 | exact g2 | exact g3))) ?_ | refine And.intro (show Region.lexB _ _ = true from by kernel_rfl) ?_ | refine And.intro (show wfB _ = true from by kernel_rfl) ?_ | refine And.intro (And.intro rfl rfl) ?_ | exact And.intro rfl rfl | apply HeldC.intro | exact AV.top | (apply HeldF.intro; refine Exists.intro _ (And.intro (by assumption) ?_); refine And.intro (by decide) ?_; exact And.intro rfl rfl) | (refine And.intro (by (refine Exists.intro _ (And.intro (by assumption) ?_); refine And.intro (by decide) ?_; exact And.intro rfl rfl)) ?_) | refine Or.inl ?_ | refine Exists.intro _ (And.intro (int_nat (by first | decide | omega | ((first | exact g1 | exact g2 | exact g3)))) (Exists.intro _ (And.intro rfl ?_)))) <;> try first | cases h1 | exact absurd h1 (by decide))
    all_goals refine fin_b hp ?_
    all_goals
      rw [ep, Int.tdiv_eq_ediv_of_nonneg o0]
      have hq : 0 ≤ o / 2 ^ (partB b l a).toNat := Int.ediv_nonneg o0 (by omega)
      have hq2 : o / 2 ^ (partB b l a).toNat ≤ o := Int.ediv_le_self _ o0
      rw [wrap64 (by omega), Int.tmod_eq_emod_of_nonneg hq, Bool.eq_iff_iff]
      simp only [hasB, decide_eq_true_eq, beq_iff_eq]
      constructor
      · rintro ⟨_, _, h | h⟩
        · omega
        · exact h
      · exact fun h => ⟨hba.1, hba.2, .inr h⟩
  · exact hp.elim

def hLets : CH := fun args hl K => match args, hl with
  | [.agg [.v (.int .i64 _), .v (.int .i64 _), .v (.int .i64 _), .v (.bool r), .v (.bool w), .v (.bool x)], .v (.int .i64 n)], [] => K (.v (.bool (letsB r w x n))) []
  | _, _ => False
set_option maxRecDepth 100000 in
theorem s_l2Lets : HSound Tryz.prog 105 (callM [] false hLets) := by
  refine callM_sound cx0_ok mixed Tryz.func105 rfl fun args hl K hp => ?_
  unfold hLets at hp
  split at hp
  · repeat' ((first | refine And.intro (fun h1 => ?_) (fun h1 => ?_) | refine And.intro (by decide) ?_ | refine And.intro (show wfB _ = true from by kernel_rfl) ?_ | refine And.intro (And.intro rfl rfl) ?_ | exact And.intro rfl rfl | apply HeldC.intro | exact AV.top | (apply HeldF.intro; refine Exists.intro _ (And.intro (by assumption) ?_); refine And.intro (by decide) ?_; exact And.intro rfl rfl) | (refine And.intro (by (refine Exists.intro _ (And.intro (by assumption) ?_); refine And.intro (by decide) ?_; exact And.intro rfl rfl)) ?_) | refine Or.inl ?_) <;> try cases h1)
    all_goals refine fin_b hp ?_
    all_goals clear hp
    all_goals simp [letsB] at *
    all_goals simp [*]
  · exact hp.elim
set_option maxRecDepth 100000 in
theorem s_allows : HSound Tryz.prog 121 (callM [] false hLets) := by
  refine callM_sound cx0_ok mixed Tryz.func121 rfl fun args hl K hp => ?_
  unfold hLets at hp
  split at hp
  · repeat' ((first | refine And.intro (fun h1 => ?_) (fun h1 => ?_) | refine And.intro (by decide) ?_ | refine And.intro (show wfB _ = true from by kernel_rfl) ?_ | refine And.intro (And.intro rfl rfl) ?_ | exact And.intro rfl rfl | apply HeldC.intro | exact AV.top | (apply HeldF.intro; refine Exists.intro _ (And.intro (by assumption) ?_); refine And.intro (by decide) ?_; exact And.intro rfl rfl) | (refine And.intro (by (refine Exists.intro _ (And.intro (by assumption) ?_); refine And.intro (by decide) ?_; exact And.intro rfl rfl)) ?_) | refine Or.inl ?_) <;> try cases h1)
    all_goals refine fin_b hp ?_
    all_goals clear hp
    all_goals simp [letsB] at *
    all_goals simp [*]
  · exact hp.elim

def hParts : CH := fun args hl K => match args, hl with
  | [.agg [.v (.int .i64 _), .v (.int .i64 _), .v (.int .i64 o), .v _, .v _, .v _]], [] => 0 ≤ o ∧ o ≤ 255 ∧ K (.v (.int .u8 (255 - o))) []
  | _, _ => False
set_option maxRecDepth 100000 in
set_option pp.maxSteps 1500 in
theorem s_parts : HSound Tryz.prog 127 (callM [] false hParts) := by
  refine callM_sound cx0_ok mixed Tryz.func127 rfl fun args hl K hp => ?_
  unfold hParts at hp
  split at hp
  · rename_i o _ _ _
    obtain ⟨h0, h1, hp⟩ := hp
    refine fin_i hp ?_
    have key : ∀ n : Fin 256, (255 - (n.1 : Int)) = IntKind.u8.wrap ↑(BitVec.ofInt IntKind.u8.bits (if IntKind.u8.signed = true then -1 else IntKind.u8.max) ^^^ BitVec.ofInt IntKind.u8.bits (IntKind.u8.wrap (n.1 : Int))).toNat := by decide +kernel
    obtain ⟨n, rfl⟩ := Int.eq_ofNat_of_zero_le h0
    exact key ⟨n, by omega⟩
  · exact hp.elim
def hBit : CH := fun args hl K => match args, hl with
  | [.v (.int .u8 p), .v (.int .i64 i)], [] => 0 ≤ p ∧ p ≤ 255 ∧ 0 ≤ i ∧ i ≤ 7 ∧ K (.v (.bool (decide (p / 2 ^ i.toNat % 2 = 1)))) []
  | _, _ => False
set_option maxRecDepth 100000 in
set_option pp.maxSteps 1500 in
theorem s_partsHas : HSound Tryz.prog 128 (callM [] false hBit) := by
  refine callM_sound cx0_ok mixed Tryz.func128 rfl fun args hl K hp => ?_
  unfold hBit at hp
  split at hp
  · rename_i p i
    obtain ⟨h0, h1, h2, h3, hp⟩ := hp
    refine And.intro h2 ?_
    refine fin_b hp ?_
    have key : ∀ (n : Fin 256) (k : Fin 8), decide ((n.1 : Int) / 2 ^ k.1 % 2 = 1) = (IntKind.u8.wrap ↑(BitVec.ofInt IntKind.u8.bits ((n.1 : Int).fdiv (2 ^ min k.1 IntKind.u8.bits)) &&& BitVec.ofInt IntKind.u8.bits 1).toNat == 1) := by decide +kernel
    obtain ⟨n, rfl⟩ := Int.eq_ofNat_of_zero_le h0
    obtain ⟨k, rfl⟩ := Int.eq_ofNat_of_zero_le h2
    exact key ⟨n, by omega⟩ ⟨k, by omega⟩
  · exact hp.elim

theorem part_bit : ∀ (n : Fin 256) (k : Fin 8), ((255 - (n.1 : Int)) / 2 ^ k.1 % 2 = 1) ↔ ((n.1 : Int) / 2 ^ k.1 % 2 = 0) := by decide +kernel
def cxIHas : Ctx := mkC [(127, callM [] false hParts), (128, callM [] false hBit)]
theorem cxIHas_ok : CtxOk Tryz.prog cxIHas := mkC_ok (mem1 ⟨s_parts, fnOk Tryz.func127 rfl rfl⟩ (mem1 ⟨s_partsHas, fnOk Tryz.func128 rfl rfl⟩ mem0))
set_option maxRecDepth 100000 in
set_option maxHeartbeats 0 in
set_option pp.maxSteps 1500 in
theorem s_has : HSound Tryz.prog 120 (callM [] false hHas) := by
  refine callM_sound cxIHas_ok mixed Tryz.func120 rfl fun args hl K hp => ?_
  unfold hHas at hp
  split at hp
  · rename_i b l o _ _ _ a
    obtain ⟨hr, ha, hp⟩ := hp
    obtain ⟨l5, l14, o0, o1, b0, b1⟩ := regOk_spec hr
    obtain ⟨p0, p1⟩ := pow14 l5 l14
    simp only [I64] at ha
    repeat' ((first | refine And.intro (fun h1 => ?_) (fun h1 => ?_) | refine And.intro (by first | decide | omega | ((first | assumption | (simp only [IntKind.bits, wrap64]; omega)))) ?_ | refine And.intro (show Region.lexB _ _ = true from by kernel_rfl) ?_ | refine And.intro (show wfB _ = true from by kernel_rfl) ?_ | refine And.intro (And.intro rfl rfl) ?_ | exact And.intro rfl rfl | apply HeldC.intro | exact AV.top | (apply HeldF.intro; refine Exists.intro _ (And.intro (by assumption) ?_); refine And.intro (by decide) ?_; exact And.intro rfl rfl) | (refine And.intro (by (refine Exists.intro _ (And.intro (by assumption) ?_); refine And.intro (by decide) ?_; exact And.intro rfl rfl)) ?_) | refine Or.inl ?_ | refine Exists.intro _ (And.intro (int_nat (by first | decide | omega | ((first | assumption | (simp only [IntKind.bits, wrap64]; omega))))) (Exists.intro _ (And.intro rfl ?_)))) <;> try first | cases h1 | exact absurd h1 (by decide))
    · refine fin_b hp ?_
      simp [hasB] at *
      omega
    · refine fin_b hp ?_
      rw [shl14 l5 l14, wrap64 (by omega)] at h1
      simp [hasB] at *
      omega
    · refine fin_b hp ?_
      rename_i h2 h3
      rw [shl14 l5 l14, wrap64 (by omega)] at h3
      simp [hasB] at *
      omega
    · rename_i h2 h3
      rw [shl14 l5 l14, wrap64 (by omega)] at h3
      simp only [decide_eq_false_iff_not] at h1 h2 h3
      obtain ⟨q0, q1⟩ := part_spec l5 l14 (b := b) (a := a) (by omega) (by omega)
      have hsh : (2 : Int) ^ min (IntKind.i64.wrap (l - 3)).toNat IntKind.i64.bits = 2 ^ l.toNat / 8 := by
        rw [wrap64 (by omega), show min (l - 3).toNat IntKind.i64.bits = l.toNat - 3 by simp only [IntKind.bits]; omega]
        have : (2 : Int) ^ l.toNat = 8 * 2 ^ (l.toNat - 3) := by
          rw [show (8 : Int) = 2 ^ 3 by rfl, ← Int.pow_add]
          congr 1
          omega
        omega
      have esh : (IntKind.i64.wrap (a - b)).fdiv (2 ^ min (IntKind.i64.wrap (l - 3)).toNat IntKind.i64.bits) = partB b l a := by
        rw [hsh, wrap64 (by omega), Int.fdiv_eq_ediv_of_nonneg _ (by omega)]
        rfl
      have s0 : 0 ≤ IntKind.i64.wrap (l - 3) := by rw [wrap64 (by omega)]; omega
      have s1 : 0 ≤ (IntKind.i64.wrap (a - b)).fdiv (2 ^ min (IntKind.i64.wrap (l - 3)).toNat IntKind.i64.bits) := by rw [esh]; omega
      have s2 : (IntKind.i64.wrap (a - b)).fdiv (2 ^ min (IntKind.i64.wrap (l - 3)).toNat IntKind.i64.bits) ≤ 7 := by rw [esh]; omega
      repeat' ((first | refine And.intro (fun h1 => ?_) (fun h1 => ?_) | refine And.intro (by first | decide | omega | ((first | exact s0 | exact s1 | exact s2))) ?_ | refine And.intro (show Region.lexB _ _ = true from by kernel_rfl) ?_ | refine And.intro (show wfB _ = true from by kernel_rfl) ?_ | refine And.intro (And.intro rfl rfl) ?_ | exact And.intro rfl rfl | apply HeldC.intro | exact AV.top | (apply HeldF.intro; refine Exists.intro _ (And.intro (by assumption) ?_); refine And.intro (by decide) ?_; exact And.intro rfl rfl) | (refine And.intro (by (refine Exists.intro _ (And.intro (by assumption) ?_); refine And.intro (by decide) ?_; exact And.intro rfl rfl)) ?_) | refine Or.inl ?_ | refine Exists.intro _ (And.intro (int_nat (by first | decide | omega | ((first | exact s0 | exact s1 | exact s2)))) (Exists.intro _ (And.intro rfl ?_)))) <;> try first | cases h1 | exact absurd h1 (by decide))
      all_goals refine fin_b hp ?_
      all_goals rw [esh]
      all_goals
        rw [Bool.eq_iff_iff]
        simp only [hasB, decide_eq_true_eq]
        clear hp s0 s1 s2 esh hsh
        generalize partB b l a = q at *
        obtain ⟨O, rfl⟩ := Int.eq_ofNat_of_zero_le o0
        obtain ⟨Q, rfl⟩ := Int.eq_ofNat_of_zero_le q0
        have := part_bit ⟨O, by omega⟩ ⟨Q, by omega⟩
        simp only [Int.toNat_natCast] at *
        rw [this]
        constructor
        · rintro ⟨_, _, h | h⟩
          · omega
          · exact h
        · exact fun h => ⟨by omega, by omega, .inr h⟩
  · exact hp.elim

/-! ### Regions in a list -/

def Rg.has (r : Rg) (a : Int) : Bool := hasB r.b r.l r.o a
def Rg.lets (r : Rg) (n : Int) : Bool := letsB r.r r.w r.x n
def oneB (rs : List Rg) (a n : Int) : Bool := rs.foldl (fun ok r => if r.has a then r.lets n else ok) false
theorem oneB_snoc (rs : List Rg) (r : Rg) (a n : Int) : oneB (rs ++ [r]) a n = if r.has a then r.lets n else oneB rs a n := by simp [oneB]
theorem oneB_take {rs : List Rg} {i : Nat} {r : Rg} (h : rs[i]? = some r) (a n : Int) : oneB (rs.take (i + 1)) a n = if r.has a then r.lets n else oneB (rs.take i) a n := by
  rw [List.take_add_one, h]
  exact oneB_snoc _ _ _ _
theorem get_map {α β : Type} {f : α → β} {l : List α} {i : Nat} {a : α} (h : l[i]? = some a) : (l.map f)[i]? = some (f a) := by simp [h]
def hOne : CH := fun args hl K => match args, hl with
  | [.imm _ _ 6 L, .v (.int .i64 a), .v (.int .i64 n)], [] => ∃ rs : List Rg, L = rs.map regC ∧ (∀ r ∈ rs, r.ok = true) ∧ rs.length ≤ 8 ∧ I64 a ∧ K (.v (.bool (oneB rs a n))) []
  | _, _ => False
def cxOne : Ctx := mkC [(104, callM [] false hHas), (105, callM [] false hLets)]
theorem cxOne_ok : CtxOk Tryz.prog cxOne := mkC_ok (mem1 ⟨s_l2Has, fnOk Tryz.func104 rfl rfl⟩ (mem1 ⟨s_l2Lets, fnOk Tryz.func105 rfl rfl⟩ mem0))
set_option maxRecDepth 100000 in
set_option pp.maxSteps 1500 in
theorem s_l2One : HSound Tryz.prog 70 (callM [] true hOne) := by
  refine callM_sound cxOne_ok mixed Tryz.func70 rfl fun args hl K hp => ?_
  unfold hOne at hp
  split at hp
  · rename_i b z L a n
    obtain ⟨rs, rfl, hok, hlen, ha, hp⟩ := hp
    refine Exists.intro true (Exists.intro [0, 1, 2, 7] (Exists.intro (fun m vs h => ∃ i : Nat, i ≤ rs.length ∧ m = i ∧ oneB rs a n = oneB (rs.take i) a n ∧ vs = [.imm b z 6 (rs.map regC), .v (.int .i64 a), .v (.int .i64 n), .v (.int .i64 ((i : Int) - 1))] ∧ h = []) (And.intro ?_ ?_)))
    · refine Exists.intro [] (Exists.intro rs.length ?_)
      refine ⟨rs.length, by omega, rfl, by simp, ?_, rfl⟩
      rw [wrap64 (by simp; omega), List.length_map]
    · intro m vs h hI
      obtain ⟨i, hi, rfl, he, rfl, rfl⟩ := hI
      refine And.intro (fun h1 => ?_) (fun h1 => ?_)
      · simp only [decide_eq_true_eq] at h1
        obtain ⟨j, rfl⟩ : ∃ j, m = j + 1 := ⟨m - 1, by omega⟩
        have hr : rs[j]? = some rs[j] := List.getElem?_eq_getElem (by omega)
        have hk := hok _ (List.mem_of_getElem? hr)
        generalize rs[j] = r at hr hk
        refine Exists.intro j (And.intro (by omega) (Exists.intro (regC r) (And.intro (get_map hr) ?_)))
        refine And.intro hk (And.intro ha ?_)
        refine And.intro (fun h2 => ?_) (fun h2 => ?_)
        · refine Exists.intro j (And.intro (by omega) (Exists.intro (regC r) (And.intro (get_map hr) ?_)))
          refine fin_b hp ?_
          rw [he, oneB_take hr]
          exact if_pos h2
        · refine Exists.intro [] (Exists.intro j (And.intro (by omega) ⟨j, by omega, rfl, ?_, ?_, rfl⟩))
          · rw [he, oneB_take hr]
            exact if_neg (by simpa [Rg.has] using h2)
          · rw [wrap64 (by omega)]; congr; omega
      · simp only [decide_eq_false_iff_not] at h1
        have : m = 0 := by omega
        subst this
        exact fin_b hp he
  · exact hp.elim

def regsOk (rs : List Rg) : Bool := rs.all Rg.ok
def allowB (rs : List Rg) (a s n : Int) : Bool := decide (rs.length ≤ 8) && widthB s && decide (1 ≤ n ∧ n ≤ 3) && regsOk rs && (List.range s.toNat).all fun i => oneB rs (a + i) n
theorem regsOk_take {rs : List Rg} {i : Nat} {r : Rg} (h : rs[i]? = some r) : regsOk (rs.take (i + 1)) = (regsOk (rs.take i) && r.ok) := by
  rw [List.take_add_one, h]
  simp [regsOk]
theorem oneB_out {rs : List Rg} (hok : regsOk rs = true) {a n : Int} (ha : a < 0 ∨ 262144 ≤ a) : oneB rs a n = false := by
  have key : ∀ (l : List Rg), (∀ r ∈ l, r ∈ rs) → l.foldl (fun ok r => if r.has a then r.lets n else ok) false = false := by
    intro l
    induction l with
    | nil => intro _; rfl
    | cons r l ih =>
      intro h
      have h1 := List.all_eq_true.1 hok r (h r List.mem_cons_self)
      obtain ⟨l5, l14, o0, o1, b0, b1⟩ := regOk_spec h1
      have h2 : r.has a = false := by
        simp only [Rg.has, hasB, decide_eq_false_iff_not]
        omega
      simp only [List.foldl_cons, h2]
      exact ih fun q hq => h q (List.mem_cons_of_mem _ hq)
  exact key rs fun _ h => h
theorem regsOk_mem {rs : List Rg} (h : regsOk rs = true) : ∀ r ∈ rs, r.ok = true := List.all_eq_true.1 h
def hAllow : CH := fun args hl K => match args, hl with
  | [.imm _ _ 6 L, .v (.int .i64 a), .v (.int .i64 s), .v (.int .i64 n)], [] => ∃ rs : List Rg, L = rs.map regC ∧ I64 a ∧ rs.length ≤ 1048576 ∧ K (.v (.bool (allowB rs a s n))) []
  | _, _ => False
def cxAllow : Ctx := mkC [(68, callM [] true hSize), (69, callM [] false hReg), (70, callM [] true hOne)]
theorem cxAllow_ok : CtxOk Tryz.prog cxAllow := mkC_ok (mem1 ⟨s_l1Size, fnOk Tryz.func68 rfl rfl⟩ (mem1 ⟨s_spec_RegionOk, fnOk Tryz.func69 rfl rfl⟩ (mem1 ⟨s_l2One, fnOk Tryz.func70 rfl rfl⟩ mem0)))
set_option maxRecDepth 100000 in
set_option pp.maxSteps 1500 in
theorem s_spec_Allowed : HSound Tryz.prog 34 (callM [] true hAllow) := by
  refine callM_sound cxAllow_ok mixed Tryz.func34 rfl fun args hl K hp => ?_
  unfold hAllow at hp
  split at hp
  · rename_i b z L a s n
    obtain ⟨rs, rfl, ha, hlen, hp⟩ := hp
    repeat' ((first | refine And.intro (fun h1 => ?_) (fun h1 => ?_) | refine And.intro (by decide) ?_ | refine And.intro (show wfB _ = true from by kernel_rfl) ?_ | refine And.intro (And.intro rfl rfl) ?_ | exact And.intro rfl rfl | apply HeldC.intro | exact AV.top | (apply HeldF.intro; refine Exists.intro _ (And.intro (by assumption) ?_); refine And.intro (by decide) ?_; exact And.intro rfl rfl) | (refine And.intro (by (refine Exists.intro _ (And.intro (by assumption) ?_); refine And.intro (by decide) ?_; exact And.intro rfl rfl)) ?_) | refine Or.inl ?_) <;> try cases h1)
    all_goals try (refine fin_b hp ?_; clear hp; simp [allowB] at *; first | omega | (intros; simp_all; done) | (intros; omega))
    rename_i q1 h2 q3
    have q4 := h1
    clear h1
    simp only [List.length_map, decide_eq_false_iff_not, Bool.not_eq_false'] at q1 h2 q3 q4
    simp only [I64] at ha
    have hs : s = 1 ∨ s = 2 ∨ s = 4 := by simpa [widthB] using h2
    have hcmp : ∀ q, regsOk rs = true → (allowB rs a s n = q ↔ ((List.range s.toNat).all fun i => oneB rs (a + i) n) = q) := by
      intro q hq
      simp only [allowB, h2, hq, Bool.and_true, Bool.true_and]
      rw [decide_eq_true (by omega), decide_eq_true (by omega)]
      simp
    refine Exists.intro true (Exists.intro [0, 1, 2, 3, 9] (Exists.intro (fun m vs h => ∃ i : Nat, i ≤ rs.length ∧ m = rs.length - i ∧ regsOk (rs.take i) = true ∧ vs = [.imm b z 6 (rs.map regC), .v (.int .i64 a), .v (.int .i64 s), .v (.int .i64 n), .v (.int .i64 i)] ∧ h = []) (And.intro ?_ ?_)))
    · refine Exists.intro [] (Exists.intro rs.length ?_)
      exact ⟨0, by omega, rfl, rfl, rfl, rfl⟩
    · intro m vs h hI
      obtain ⟨i, hi, rfl, he, rfl, rfl⟩ := hI
      refine And.intro (fun h5 => ?_) (fun h5 => ?_)
      · simp only [decide_eq_true_eq, List.length_map] at h5
        have hr : rs[i]? = some rs[i] := List.getElem?_eq_getElem (by omega)
        generalize rs[i] = r at hr
        refine Exists.intro i (And.intro rfl (Exists.intro (regC r) (And.intro (get_map hr) ?_)))
        have hst := regsOk_take hr
        refine And.intro (fun h6 => ?_) (fun h6 => ?_)
        · refine fin_b hp ?_
          have h6 : r.ok = false := by simpa [Rg.ok] using h6
          have : regsOk rs = false := by
            rw [Bool.eq_false_iff]
            intro hq
            have := regsOk_mem hq r (List.mem_of_getElem? hr)
            rw [h6] at this
            cases this
          simp [allowB, this]
        · have h6 : r.ok = true := by simpa [Rg.ok] using h6
          refine Exists.intro [] (Exists.intro (rs.length - (i + 1)) (And.intro (by omega) ⟨i + 1, by omega, rfl, by rw [hst, he, h6]; rfl, ?_, rfl⟩))
          rw [wrap_succ (by omega : i < rs.length) (by omega)]
      · simp only [decide_eq_false_iff_not, List.length_map] at h5
        have hil : i = rs.length := by omega
        subst hil
        rw [List.take_length] at he
        obtain ⟨S, rfl⟩ := Int.eq_ofNat_of_zero_le (show 0 ≤ s by omega)
        refine Exists.intro true (Exists.intro [0, 1, 2, 3, 10] (Exists.intro (fun m vs h => ∃ i : Nat, i ≤ S ∧ m = S - i ∧ (∀ j < i, oneB rs (a + j) n = true) ∧ vs = [.imm b z 6 (rs.map regC), .v (.int .i64 a), .v (.int .i64 S), .v (.int .i64 n), .v (.int .i64 i)] ∧ h = []) (And.intro ?_ ?_)))
        · refine Exists.intro [] (Exists.intro S ?_)
          exact ⟨0, by omega, rfl, fun j hj => by omega, rfl, rfl⟩
        · intro m vs h hI
          obtain ⟨i, hi, rfl, hj, rfl, rfl⟩ := hI
          refine And.intro (fun h5 => ?_) (fun h5 => ?_)
          · simp only [decide_eq_true_eq] at h5
            have hw : IntKind.i64.wrap (a + i) = a + i := by
              by_cases h0 : i = 0
              · subst h0; exact wrap64 (by omega)
              · have := hj 0 (by omega)
                have hin : a < 262144 := by
                  apply Classical.byContradiction
                  intro hc
                  rw [oneB_out he (.inr (by omega))] at this
                  cases this
                exact wrap64 (by omega)
            refine Exists.intro rs (And.intro rfl (And.intro (regsOk_mem he) (And.intro (by omega) (And.intro (by rw [hw]; simp only [I64]; by_cases h0 : i = 0; omega; (have := hj 0 (by omega); have hin : a < 262144 := (by apply Classical.byContradiction; intro hc; rw [oneB_out he (.inr (by omega))] at this; cases this); omega)) ?_))))
            rw [hw]
            refine And.intro (fun h6 => ?_) (fun h6 => ?_)
            · refine fin_b hp ?_
              rw [hcmp _ he, List.all_eq_false]
              exact ⟨i, by simp; omega, by simpa using h6⟩
            · refine Exists.intro [] (Exists.intro (S - (i + 1)) (And.intro (by omega) ⟨i + 1, by omega, rfl, fun j hj' => ?_, ?_, rfl⟩))
              · rcases Nat.lt_or_ge j i with h | h
                · exact hj j h
                · have : j = i := by omega
                  subst this
                  simpa using h6
              · rw [wrap_succ (by omega : i < S) (by omega)]
          · simp only [decide_eq_false_iff_not] at h5
            refine fin_b hp ?_
            rw [hcmp _ he, List.all_eq_true]
            exact fun j hj' => hj j (by simp at hj'; omega)
  · exact hp.elim

def cxIAllow : Ctx := mkC [(118, callM [] true hSize), (119, callM [] false hReg), (120, callM [] false hHas), (121, callM [] false hLets)]
theorem cxIAllow_ok : CtxOk Tryz.prog cxIAllow := mkC_ok (mem1 ⟨s_goodSize, fnOk Tryz.func118 rfl rfl⟩ (mem1 ⟨s_impl_RegionOk, fnOk Tryz.func119 rfl rfl⟩ (mem1 ⟨s_has, fnOk Tryz.func120 rfl rfl⟩ (mem1 ⟨s_allows, fnOk Tryz.func121 rfl rfl⟩ mem0))))
set_option maxRecDepth 100000 in
set_option pp.maxSteps 1500 in
theorem s_impl_Allowed : HSound Tryz.prog 114 (callM [] true hAllow) := by
  refine callM_sound cxIAllow_ok mixed Tryz.func114 rfl fun args hl K hp => ?_
  unfold hAllow at hp
  split at hp
  · rename_i b z L a s n
    obtain ⟨rs, rfl, ha, hlen, hp⟩ := hp
    repeat' ((first | refine And.intro (fun h1 => ?_) (fun h1 => ?_) | refine And.intro (by decide) ?_ | refine And.intro (show wfB _ = true from by kernel_rfl) ?_ | refine And.intro (And.intro rfl rfl) ?_ | exact And.intro rfl rfl | apply HeldC.intro | exact AV.top | (apply HeldF.intro; refine Exists.intro _ (And.intro (by assumption) ?_); refine And.intro (by decide) ?_; exact And.intro rfl rfl) | (refine And.intro (by (refine Exists.intro _ (And.intro (by assumption) ?_); refine And.intro (by decide) ?_; exact And.intro rfl rfl)) ?_) | refine Or.inl ?_) <;> try cases h1)
    all_goals try (refine fin_b hp ?_; clear hp; simp [allowB] at *; first | omega | (intros; simp_all; done) | (intros; omega))
    rename_i q1 h2 q3
    have q4 := h1
    clear h1
    simp only [List.length_map, decide_eq_false_iff_not, Bool.not_eq_false'] at q1 h2 q3 q4
    simp only [I64] at ha
    have hs : s = 1 ∨ s = 2 ∨ s = 4 := by simpa [widthB] using h2
    have hcmp : ∀ q, regsOk rs = true → (allowB rs a s n = q ↔ ((List.range s.toNat).all fun i => oneB rs (a + i) n) = q) := by
      intro q hq
      simp only [allowB, h2, hq, Bool.and_true, Bool.true_and]
      rw [decide_eq_true (by omega), decide_eq_true (by omega)]
      simp
    refine Exists.intro true (Exists.intro [0, 1, 2, 3, 31, 32, 33] (Exists.intro (fun m vs h => ∃ i : Nat, i ≤ rs.length ∧ m = rs.length - i ∧ regsOk (rs.take i) = true ∧ vs = [.imm b z 6 (rs.map regC), .v (.int .i64 a), .v (.int .i64 s), .v (.int .i64 n), .imm b z 6 (rs.map regC), .v (.int .i64 rs.length), .v (.int .i64 i)] ∧ h = []) (And.intro ?_ ?_)))
    · refine Exists.intro [] (Exists.intro rs.length ?_)
      exact ⟨0, by omega, rfl, rfl, by rw [List.length_map]; rfl, rfl⟩
    · intro m vs h hI
      obtain ⟨i, hi, rfl, he, rfl, rfl⟩ := hI
      refine And.intro (fun h5 => ?_) (fun h5 => ?_)
      · simp only [decide_eq_true_eq] at h5
        have hr : rs[i]? = some rs[i] := List.getElem?_eq_getElem (by omega)
        generalize rs[i] = r at hr
        refine Exists.intro i (And.intro rfl (Exists.intro (regC r) (And.intro (get_map hr) ?_)))
        have hst := regsOk_take hr
        refine And.intro (fun h6 => ?_) (fun h6 => ?_)
        · refine fin_b hp ?_
          have h6 : r.ok = false := by simpa [Rg.ok] using h6
          have : regsOk rs = false := by
            rw [Bool.eq_false_iff]
            intro hq
            have := regsOk_mem hq r (List.mem_of_getElem? hr)
            rw [h6] at this
            cases this
          simp [allowB, this]
        · have h6 : r.ok = true := by simpa [Rg.ok] using h6
          refine Exists.intro [] (Exists.intro (rs.length - (i + 1)) (And.intro (by omega) ⟨i + 1, by omega, rfl, by rw [hst, he, h6]; rfl, ?_, rfl⟩))
          rw [wrap_succ (by omega : i < rs.length) (by omega)]
      · simp only [decide_eq_false_iff_not] at h5
        have hil : i = rs.length := by omega
        subst hil
        rw [List.take_length] at he
        repeat' ((first | refine And.intro (fun h1 => ?_) (fun h1 => ?_) | refine And.intro (by decide) ?_ | refine And.intro (show wfB _ = true from by kernel_rfl) ?_ | refine And.intro (And.intro rfl rfl) ?_ | exact And.intro rfl rfl | apply HeldC.intro | exact AV.top | (apply HeldF.intro; refine Exists.intro _ (And.intro (by assumption) ?_); refine And.intro (by decide) ?_; exact And.intro rfl rfl) | (refine And.intro (by (refine Exists.intro _ (And.intro (by assumption) ?_); refine And.intro (by decide) ?_; exact And.intro rfl rfl)) ?_) | refine Or.inl ?_) <;> try cases h1)
        · refine fin_b hp ?_
          simp only [decide_eq_true_eq] at *
          rw [hcmp _ he, List.all_eq_false]
          exact ⟨0, by simp; omega, by rw [oneB_out he (by omega)]; simp⟩
        · refine fin_b hp ?_
          simp only [decide_eq_true_eq] at *
          rw [hcmp _ he, List.all_eq_false]
          exact ⟨0, by simp; omega, by rw [oneB_out he (by omega)]; simp⟩
        rename_i h6
        have h7 := h1
        clear h1
        simp only [decide_eq_false_iff_not] at h6 h7
        obtain ⟨S, rfl⟩ := Int.eq_ofNat_of_zero_le (show 0 ≤ s by omega)
        refine Exists.intro true (Exists.intro [0, 1, 2, 3, 11] (Exists.intro (fun m vs h => ∃ i : Nat, i ≤ S ∧ m = S - i ∧ (∀ j < i, oneB rs (a + j) n = true) ∧ vs = [.imm b z 6 (rs.map regC), .v (.int .i64 a), .v (.int .i64 S), .v (.int .i64 n), .v (.int .i64 (a + i))] ∧ h = []) (And.intro ?_ ?_)))
        · refine Exists.intro [] (Exists.intro S ?_)
          exact ⟨0, by omega, rfl, fun j hj => by omega, by simp, rfl⟩
        · intro m vs h hI
          obtain ⟨i, hi, rfl, hj, rfl, rfl⟩ := hI
          have hw : IntKind.i64.wrap (a + S) = a + S := wrap64 (by omega)
          refine And.intro (fun h5 => ?_) (fun h5 => ?_)
          · simp only [decide_eq_true_eq, hw] at h5
            refine Exists.intro true (Exists.intro [0, 1, 2, 3, 11, 12, 55, 56, 57] (Exists.intro (fun m vs h => ∃ q : Nat, q ≤ rs.length ∧ m = rs.length - q ∧ vs = [.imm b z 6 (rs.map regC), .v (.int .i64 a), .v (.int .i64 S), .v (.int .i64 n), .v (.int .i64 (a + i)), .v (.bool (oneB (rs.take q) (a + i) n)), .imm b z 6 (rs.map regC), .v (.int .i64 rs.length), .v (.int .i64 q)] ∧ h = []) (And.intro ?_ ?_)))
            · refine Exists.intro [] (Exists.intro rs.length ?_)
              exact ⟨0, by omega, rfl, by rw [List.length_map]; rfl, rfl⟩
            · intro m vs h hI
              obtain ⟨q, hq, rfl, rfl, rfl⟩ := hI
              refine And.intro (fun h8 => ?_) (fun h8 => ?_)
              · simp only [decide_eq_true_eq] at h8
                have hr : rs[q]? = some rs[q] := List.getElem?_eq_getElem (by omega)
                have hk := regsOk_mem he _ (List.mem_of_getElem? hr)
                generalize rs[q] = r at hr hk
                refine Exists.intro q (And.intro rfl (Exists.intro (regC r) (And.intro (get_map hr) ?_)))
                refine And.intro hk (And.intro (by simp only [I64]; omega) ?_)
                have hw2 : IntKind.i64.wrap ((q : Int) + 1) = ((q + 1 : Nat) : Int) := wrap_succ (by omega : q < rs.length) (by omega)
                refine And.intro (fun h9 => ?_) (fun h9 => ?_)
                · refine Exists.intro [] (Exists.intro (rs.length - (q + 1)) (And.intro (by omega) ⟨q + 1, by omega, rfl, ?_, rfl⟩))
                  rw [hw2, oneB_take hr, if_pos (show r.has (a + i) = true from h9)]
                  rfl
                · refine Exists.intro [] (Exists.intro (rs.length - (q + 1)) (And.intro (by omega) ⟨q + 1, by omega, rfl, ?_, rfl⟩))
                  rw [hw2, oneB_take hr, if_neg (show ¬ r.has (a + i) = true by simpa [Rg.has] using h9)]
              · simp only [decide_eq_false_iff_not] at h8
                have hil : q = rs.length := by omega
                subst hil
                rw [List.take_length]
                refine And.intro (fun h9 => ?_) (fun h9 => ?_)
                · refine fin_b hp ?_
                  rw [hcmp _ he, List.all_eq_false]
                  exact ⟨i, by simp; omega, by simpa using h9⟩
                · refine Exists.intro [] (Exists.intro (S - (i + 1)) (And.intro (by omega) ⟨i + 1, by omega, rfl, fun j hj' => ?_, ?_, rfl⟩))
                  · rcases Nat.lt_or_ge j i with h | h
                    · exact hj j h
                    · have : j = i := by omega
                      subst this
                      simpa using h9
                  · rw [wrap64 (by omega), show a + (i : Int) + 1 = a + ((i + 1 : Nat) : Int) by omega]
          · simp only [decide_eq_false_iff_not, hw] at h5
            refine fin_b hp ?_
            rw [hcmp _ he, List.all_eq_true]
            exact fun j hj' => hj j (by simp at hj'; omega)
  · exact hp.elim
end Go.Proofs.YtijjonafmmhhbaaGreat.Ab
