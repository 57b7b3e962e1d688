/- Functions walked, part 11. No condition. -/
import Derived.Test.YtbfjkjdbdejnmaaGreatWalk2
import Derived.Test.YtbfjkjdbdejnmaaGreatWalk10
set_option linter.unusedVariables false
set_option linter.unusedSimpArgs false
/- Cover: the best region at an address, by both programs. No condition. -/
namespace Go.Proofs.YtbfjkjdbdejnmaaGreat.Ab

/-! ### The plain law -/

def cntN (c : Nat → Bool) : Nat → Nat
  | 0 => 0
  | i + 1 => cntN c i + (if c i then 1 else 0)
def offN (c : Nat → Bool) : Nat → Nat
  | 0 => 0
  | i + 1 => offN c i + (if c i then 0 else 2 ^ i)
def inB (f n : Nat) (i : Nat) : Bool := decide (f ≤ i ∧ i < f + n)
theorem cntN_congr {c d : Nat → Bool} : ∀ {i : Nat}, (∀ j < i, c j = d j) → cntN c i = cntN d i
  | 0, _ => rfl
  | i + 1, h => by simp only [cntN]; rw [cntN_congr fun j hj => h j (by omega), h i (by omega)]
theorem offN_congr {c d : Nat → Bool} : ∀ {i : Nat}, (∀ j < i, c j = d j) → offN c i = offN d i
  | 0, _ => rfl
  | i + 1, h => by simp only [offN]; rw [offN_congr fun j hj => h j (by omega), h i (by omega)]
theorem cntN_in : ∀ (f : Fin 8) (n : Fin 9), f.1 + n.1 ≤ 8 → cntN (inB f.1 n.1) 8 = n.1 := by decide +kernel
theorem cntN_none (i : Nat) : cntN (fun _ => false) i = 0 := by
  induction i with
  | zero => rfl
  | succ i ih => simp [cntN, ih]
theorem cntN_le (c : Nat → Bool) (i : Nat) : cntN c i ≤ i := by
  induction i with
  | zero => exact Nat.le_refl _
  | succ i ih => simp only [cntN]; split <;> omega
theorem offN_lt (c : Nat → Bool) (i : Nat) : offN c i < 2 ^ i := by
  induction i with
  | zero => exact Nat.one_pos
  | succ i ih => simp only [offN, Nat.pow_succ]; split <;> omega
/-- The greatest region of a Log that begins at an address and stays in a number of addresses, and how many it has. -/
def candF (L : Nat) (a s : Int) : Option (Rg × Int) :=
  if L < 8 then (if a % 2 ^ L = 0 ∧ 2 ^ L ≤ s then some (⟨a, L, 0, false, false, false⟩, 2 ^ L) else none)
  else
    let p : Int := 2 ^ (L - 3)
    let f := a % 2 ^ L / p
    let n := min (8 - f) (s / p)
    if a % p = 0 ∧ 1 ≤ n then some (⟨a - f * p, L, offN (inB f.toNat n.toNat) 8, false, false, false⟩, n * p) else none
def bestN (a s : Int) : Nat → Rg × Int
  | 0 => (zeroRegion, 0)
  | k + 1 => match candF (5 + k) a s with
    | some (r, c) => if (bestN a s k).2 < c then (r, c) else bestN a s k
    | none => bestN a s k
def coverF : Nat → Int → Int → List Rg
  | 0, _, _ => []
  | f + 1, a, s => if 0 < s then (bestN a s 10).1 :: coverF f (a + (bestN a s 10).2) (s - (bestN a s 10).2) else []
theorem pow_split {L : Nat} (h : 8 ≤ L) : (2 : Int) ^ L = 8 * 2 ^ (L - 3) := by
  rw [show (8 : Int) = 2 ^ 3 by rfl, ← Int.pow_add]
  congr 1
  omega
theorem pow_pos' (k : Nat) : (0 : Int) < 2 ^ k := Int.pow_pos (by omega)
/-- The eight parts: how many before the address, how many from it on. -/
theorem part_nums {L : Nat} {a s : Int} (h8 : 8 ≤ L) (ha : 0 ≤ a) (hs : 0 < s) : 0 ≤ a % 2 ^ L / 2 ^ (L - 3) ∧ a % 2 ^ L / 2 ^ (L - 3) ≤ 7 ∧ 0 ≤ s / 2 ^ (L - 3) := by
  have hp := pow_pos' (L - 3)
  have hw := pow_pos' L
  have h1 := Int.emod_nonneg a (Int.ne_of_gt hw)
  have h2 := Int.emod_lt_of_pos a hw
  have h3 := pow_split h8
  refine ⟨Int.ediv_nonneg h1 (by omega), ?_, Int.ediv_nonneg (by omega) (by omega)⟩
  have : a % 2 ^ L / 2 ^ (L - 3) < 8 := Int.ediv_lt_of_lt_mul hp (by omega)
  omega
theorem cand_le {L : Nat} {a s : Int} {r : Rg} {c : Int} (ha : 0 ≤ a) (hs : 0 < s) (h5 : 5 ≤ L) (h : candF L a s = some (r, c)) : 32 ≤ c ∧ c ≤ s := by
  unfold candF at h
  split at h
  · split at h
    · cases h
      exact ⟨pow_le h5, by omega⟩
    · cases h
  · rename_i h8
    obtain ⟨f0, f7, q0⟩ := part_nums (L := L) (a := a) (s := s) (by omega) ha hs
    have hp : (32 : Int) ≤ 2 ^ (L - 3) := pow_le (show 5 ≤ L - 3 by omega)
    simp only at h
    generalize a % 2 ^ L / 2 ^ (L - 3) = f at *
    split at h
    · rename_i hc
      cases h
      have h1 : min (8 - f) (s / 2 ^ (L - 3)) ≤ s / 2 ^ (L - 3) := by omega
      have h2 : s / 2 ^ (L - 3) * 2 ^ (L - 3) ≤ s := Int.ediv_mul_le s (by omega)
      have h3 := Int.mul_le_mul_of_nonneg_right h1 (show (0 : Int) ≤ 2 ^ (L - 3) by omega)
      have h4 := Int.mul_le_mul_of_nonneg_right hc.2 (show (0 : Int) ≤ 2 ^ (L - 3) by omega)
      omega
    · cases h
theorem best_le {a s : Int} (ha : 0 ≤ a) (hs : 0 < s) : ∀ k, 0 ≤ (bestN a s k).2 ∧ (bestN a s k).2 ≤ s
  | 0 => by simp [bestN]; omega
  | k + 1 => by
    have ih := best_le ha hs k
    simp only [bestN]
    split
    · rename_i r c hc
      have := cand_le ha hs (by omega) hc
      split
      · simp only; omega
      · exact ih
    · exact ih
theorem best_mono {a s : Int} {k : Nat} (h : 32 ≤ (bestN a s k).2) : ∀ j, 32 ≤ (bestN a s (k + j)).2
  | 0 => h
  | j + 1 => by
    have ih := best_mono h j
    rw [← Nat.add_assoc]
    simp only [bestN]
    split
    · split
      · simp only; omega
      · exact ih
    · exact ih
theorem best_pos {a s : Int} (hs : 32 ≤ s) (hm : a % 32 = 0) : 32 ≤ (bestN a s 10).2 := by
  refine best_mono (k := 1) ?_ 9
  have : candF 5 a s = some (⟨a, 5, 0, false, false, false⟩, 32) := by
    simp [candF]
    omega
  simp [bestN, this]

theorem mul32 {L : Nat} (h : 5 ≤ L) (n : Int) : (n * 2 ^ L) % 32 = 0 := by
  have : (2 : Int) ^ L = 2 ^ (L - 5) * 32 := by
    rw [show (32 : Int) = 2 ^ 5 by rfl, ← Int.pow_add]
    congr 1
    omega
  rw [this, ← Int.mul_assoc]
  exact Int.mul_emod_left _ _
theorem cand_mod {L : Nat} {a s : Int} {r : Rg} {c : Int} (h5 : 5 ≤ L) (h : candF L a s = some (r, c)) : c % 32 = 0 := by
  unfold candF at h
  split at h
  · split at h
    · cases h
      have := mul32 h5 1
      rwa [Int.one_mul] at this
    · cases h
  · simp only at h
    split at h
    · cases h
      exact mul32 (by omega) _
    · cases h
theorem best_mod {a s : Int} : ∀ k, (bestN a s k).2 % 32 = 0
  | 0 => rfl
  | k + 1 => by
    have ih := best_mod (a := a) (s := s) k
    simp only [bestN]
    split
    · rename_i r c hc
      split
      · exact cand_mod (by omega) hc
      · exact ih
    · exact ih

def partC (L : Nat) (a s B : Int) (j : Nat) : Bool := decide (a ≤ B + j * 2 ^ (L - 3) ∧ B + j * 2 ^ (L - 3) + 2 ^ (L - 3) ≤ a + s ∧ a % 2 ^ (L - 3) = 0)
theorem part_eq {L : Nat} {a s B : Int} (h8 : 8 ≤ L) (ha : 0 ≤ a) (hs : 0 < s) (hB : B + a % 2 ^ L = a) (hm : a % 2 ^ (L - 3) = 0) :
    B = a - a % 2 ^ L / 2 ^ (L - 3) * 2 ^ (L - 3) ∧ ∀ j < 8, partC L a s B j = inB (a % 2 ^ L / 2 ^ (L - 3)).toNat (min (8 - a % 2 ^ L / 2 ^ (L - 3)) (s / 2 ^ (L - 3))).toNat j := by
  obtain ⟨f0, f7, q0⟩ := part_nums h8 ha hs
  have hp := pow_pos' (L - 3)
  have hsp := pow_split h8
  have hf : a % 2 ^ L / 2 ^ (L - 3) * 2 ^ (L - 3) = a % 2 ^ L := by
    refine Int.ediv_mul_cancel (Int.dvd_of_emod_eq_zero ?_)
    rw [hsp, Int.emod_emod_of_dvd _ (Int.dvd_mul_left _ _)]
    exact hm
  refine ⟨by omega, fun j hj => ?_⟩
  have e1 : (a ≤ B + j * 2 ^ (L - 3)) ↔ a % 2 ^ L / 2 ^ (L - 3) ≤ j := by
    constructor
    · intro h
      have h : a % 2 ^ L / 2 ^ (L - 3) * 2 ^ (L - 3) ≤ (j : Int) * 2 ^ (L - 3) := by omega
      exact Int.le_of_mul_le_mul_right h hp
    · intro h
      have := Int.mul_le_mul_of_nonneg_right h (Int.le_of_lt hp)
      omega
  have e2 : (B + j * 2 ^ (L - 3) + 2 ^ (L - 3) ≤ a + s) ↔ (j : Int) + 1 - a % 2 ^ L / 2 ^ (L - 3) ≤ s / 2 ^ (L - 3) := by
    rw [Int.le_ediv_iff_mul_le hp, Int.sub_mul, Int.add_mul, Int.one_mul, hf]
    omega
  simp only [partC, inB, e1, e2, hm, and_true]
  generalize a % 2 ^ L / 2 ^ (L - 3) = f at *
  generalize s / 2 ^ (L - 3) = q at *
  rw [decide_eq_decide]
  omega
theorem cand_parts {L : Nat} {a s B : Int} (h8 : 8 ≤ L) (ha : 0 ≤ a) (hs : 0 < s) (hB : B + a % 2 ^ L = a) :
    (candF L a s = some ((⟨B, L, offN (partC L a s B) 8, false, false, false⟩ : Rg), (cntN (partC L a s B) 8 : Int) * 2 ^ (L - 3))) ∨ (candF L a s = none ∧ cntN (partC L a s B) 8 = 0) := by
  obtain ⟨f0, f7, q0⟩ := part_nums (s := s) h8 ha hs
  by_cases hm : a % 2 ^ (L - 3) = 0
  · obtain ⟨h1, h2⟩ := part_eq h8 ha hs hB hm
    have hin := cntN_in ⟨(a % 2 ^ L / 2 ^ (L - 3)).toNat, by omega⟩ ⟨(min (8 - a % 2 ^ L / 2 ^ (L - 3)) (s / 2 ^ (L - 3))).toNat, by omega⟩ (by simp only; omega)
    rw [cntN_congr h2, offN_congr h2]
    simp only at hin
    rw [hin]
    simp only [candF, if_neg (show ¬ L < 8 by omega), hm, true_and]
    split
    · refine .inl ?_
      rw [← h1, Int.toNat_of_nonneg (by omega)]
    · exact .inr ⟨rfl, by omega⟩
  · refine .inr ⟨?_, ?_⟩
    · simp only [candF, if_neg (show ¬ L < 8 by omega), hm, false_and, if_false]
    · rw [cntN_congr (d := fun _ => false) fun j _ => by simp [partC, hm]]
      exact cntN_none 8

/-! ### The reference's -/

theorem regOk_base {L : Nat} {a : Int} (h5 : 5 ≤ L) (h14 : L ≤ 14) (ha : 0 ≤ a) (hb : a < 262144) : regOk (a - a % 2 ^ L) L 0 = true := by
  have hl : L = 5 ∨ L = 6 ∨ L = 7 ∨ L = 8 ∨ L = 9 ∨ L = 10 ∨ L = 11 ∨ L = 12 ∨ L = 13 ∨ L = 14 := by omega
  simp only [regOk, decide_eq_true_eq, Int.toNat_natCast]
  rcases hl with rfl | rfl | rfl | rfl | rfl | rfl | rfl | rfl | rfl | rfl <;> simp only [Int.reducePow] <;> (refine ⟨by omega, by omega, by omega, by omega, fun _ => by trivial, by omega, by omega, ?_⟩; rw [Int.tmod_eq_emod_of_nonneg (by omega)]; omega)
def hBest : CH := fun args hl K => match args, hl with
  | [.v (.int .i64 l), .v (.int .i64 a), .v (.int .i64 s)], [] => ∃ L : Nat, l = L ∧ 5 ≤ L ∧ L ≤ 14 ∧ 0 ≤ a ∧ 0 < s ∧ a + s ≤ 262144 ∧
      (∀ r c, candF L a s = some (r, c) → K (.tup [.agg (regC r), .v (.int .i64 c)]) []) ∧ (candF L a s = none → ∀ r, K (.tup [.agg (regC r), .v (.int .i64 0)]) [])
  | _, _ => False
def cx_s_l2Best : Ctx := mkC [(227, callM [] false hPw), (228, callM [] false hReg)]
theorem cx_s_l2Best_ok : CtxOk Tryz.prog cx_s_l2Best := mkC_ok (mem1 ⟨s_l2Pow2, fnOk Tryz.func227 rfl rfl⟩ (mem1 ⟨s_spec_RegionOk, fnOk Tryz.func228 rfl rfl⟩ mem0))
set_option maxRecDepth 100000 in
set_option pp.maxSteps 1500 in
set_option maxHeartbeats 4000000 in
theorem s_l2Best : HSound Tryz.prog 196 (callM [] false hBest) := by
  refine callM_sound cx_s_l2Best_ok mixed Tryz.func196 rfl fun args hl K hp => ?_
  unfold hBest at hp
  split at hp
  · rename_i l a s
    obtain ⟨L, rfl, h5, h14, ha, hs, hle, hk1, hk2⟩ := hp
    obtain ⟨p0, p1⟩ := pow14 (b := L) (by omega) (by omega)
    simp only [Int.toNat_natCast] at p0 p1
    have hw : (0 : Int) < 2 ^ L := pow_pos' L
    have hd : IntKind.i64.wrap (a.tdiv (2 ^ L)) = a / 2 ^ L := by
      rw [Int.tdiv_eq_ediv_of_nonneg ha]
      have := Int.ediv_le_self (2 ^ L) ha
      have := Int.ediv_nonneg ha (Int.le_of_lt hw)
      exact wrap64 (by omega)
    have hb : a / 2 ^ L * 2 ^ L = a - a % 2 ^ L := by
      have := Int.mul_ediv_add_emod a (2 ^ L)
      rw [Int.mul_comm] at this
      omega
    have hm0 := Int.emod_nonneg a (Int.ne_of_gt hw)
    have hm1 := Int.emod_lt_of_pos a hw
    have hbase : IntKind.i64.wrap (IntKind.i64.wrap (a.tdiv (2 ^ L)) * 2 ^ L) = a - a % 2 ^ L := by
      rw [hd, hb]; exact wrap64 (by omega)
    refine And.intro (by omega) (And.intro (by omega) ?_)
    simp only [Int.toNat_natCast]
    refine And.intro (Int.ne_of_gt hw) ?_
    have hreg := regOk_base h5 h14 ha (show a < 262144 by omega)
    have hbb : IntKind.i64.wrap (IntKind.i64.wrap (a.tdiv (2 ^ L)) * 2 ^ L) + a % 2 ^ L = a := by rw [hbase]; omega
    rw [← hbase] at hreg
    clear hbase hd
    refine And.intro (fun h1 => ?_) (fun h1 => ?_)
    · rw [hreg] at h1; cases h1
    generalize IntKind.i64.wrap (IntKind.i64.wrap (a.tdiv (2 ^ L)) * 2 ^ L) = B at *
    repeat' ((first | refine And.intro (fun h1 => ?_) (fun h1 => ?_) | refine And.intro (by decide) ?_ | refine And.intro (show wfB _ = true from by kernel_rfl) ?_ | refine And.intro (And.intro rfl rfl) ?_ | exact And.intro rfl rfl | apply HeldC.intro | exact AV.top | (apply HeldF.intro; refine Exists.intro _ (And.intro (by assumption) ?_); refine And.intro (by decide) ?_; exact And.intro rfl rfl) | (refine And.intro (by (refine Exists.intro _ (And.intro (by assumption) ?_); refine And.intro (by decide) ?_; exact And.intro rfl rfl)) ?_) | refine Or.inl ?_) <;> try cases h1)
    · have h2 : L < 8 := by have := of_decide_eq_true (by assumption : decide ((L : Int) < 8) = true); omega
      have h3 : B ≠ a := by simpa using h1
      refine hk2 ?_ ⟨_, _, _, _, _, _⟩
      simp only [candF, h2, if_true]
      rw [if_neg (by omega)]
    · have h2 : L < 8 := by have := of_decide_eq_true (by assumption : decide ((L : Int) < 8) = true); omega
      have h3 : s < 2 ^ L := by simpa using h1
      refine hk2 ?_ ⟨_, _, _, _, _, _⟩
      simp only [candF, h2, if_true]
      rw [if_neg (by omega)]
    · have h2 : L < 8 := by have := of_decide_eq_true (by assumption : decide ((L : Int) < 8) = true); omega
      have h3 : B = a := by simpa using (by assumption : (B != a) = false)
      have h4 : 2 ^ L ≤ s := by simpa using h1
      subst h3
      refine hk1 ⟨B, L, 0, false, false, false⟩ (2 ^ L) ?_
      simp only [candF, h2, if_true]
      rw [if_pos (by omega)]
    have h8 : 8 ≤ L := by have := of_decide_eq_false (by assumption : decide ((L : Int) < 8) = false); omega
    have hsp := pow_split h8
    have hp32 : (32 : Int) ≤ 2 ^ (L - 3) := pow_le (show 5 ≤ L - 3 by omega)
    have htd : IntKind.i64.wrap ((2 ^ L : Int).tdiv 8) = 2 ^ (L - 3) := by
      rw [Int.tdiv_eq_ediv_of_nonneg (by omega), wrap64 (by omega)]
      omega
    rw [htd]
    refine Exists.intro true (Exists.intro [1, 2, 6, 9, 10, 11, 12, 13] (Exists.intro (fun m vs h => ∃ i : Nat, i ≤ 8 ∧ m = 8 - i ∧ vs = [.v (.int .i64 a), .v (.int .i64 s), .ptr 0 0 0 6, .v (.int .i64 B), .ptr 1 0 0 6, .v (.int .i64 (2 ^ (L - 3))), .v (.int .i64 (cntN (partC L a s B) i * 2 ^ (L - 3))), .v (.int .i64 i)] ∧
      h = [.box (regC zeroRegion), .box (regC ⟨B, L, offN (partC L a s B) i, false, false, false⟩)]) (And.intro ?_ ?_)))
    · refine Exists.intro [] (Exists.intro 8 ?_)
      exact ⟨0, by omega, rfl, by simp [cntN], rfl⟩
    · intro m vs h hI
      obtain ⟨i, hi, rfl, rfl, rfl⟩ := hI
      have hpp : (2 : Int) ^ (L - 3) ≠ 0 := by omega
      have hi8 : (i : Int) * 2 ^ (L - 3) ≤ 8 * 2 ^ (L - 3) := Int.mul_le_mul_of_nonneg_right (by omega) (by omega)
      have hi0 : 0 ≤ (i : Int) * 2 ^ (L - 3) := Int.mul_nonneg (by omega) (by omega)
      have w1 : IntKind.i64.wrap ((i : Int) * 2 ^ (L - 3)) = i * 2 ^ (L - 3) := wrap64 (by omega)
      have w2 : IntKind.i64.wrap (B + i * 2 ^ (L - 3)) = B + i * 2 ^ (L - 3) := wrap64 (by omega)
      have w3 : IntKind.i64.wrap (B + i * 2 ^ (L - 3) + 2 ^ (L - 3)) = B + i * 2 ^ (L - 3) + 2 ^ (L - 3) := wrap64 (by omega)
      have w4 : IntKind.i64.wrap (a + s) = a + s := wrap64 (by omega)
      have w5 : a.tmod (2 ^ (L - 3)) = a % 2 ^ (L - 3) := Int.tmod_eq_emod_of_nonneg ha
      refine And.intro (fun h2 => ?_) (fun h2 => ?_)
      · simp only [decide_eq_true_eq] at h2
        repeat' ((first | refine And.intro (fun h1 => ?_) (fun h1 => ?_) | refine And.intro (by first | decide | omega | (exact hpp)) ?_ | refine And.intro (show Region.lexB _ _ = true from by kernel_rfl) ?_ | refine And.intro (show wfB _ = true from by kernel_rfl) ?_ | refine And.intro (And.intro rfl rfl) ?_ | exact And.intro rfl rfl | apply HeldC.intro | exact AV.top | (apply HeldF.intro; refine Exists.intro _ (And.intro (by assumption) ?_); refine And.intro (by decide) ?_; exact And.intro rfl rfl) | (refine And.intro (by (refine Exists.intro _ (And.intro (by assumption) ?_); refine And.intro (by decide) ?_; exact And.intro rfl rfl)) ?_) | refine Or.inl ?_ | refine Exists.intro _ (And.intro (int_nat (by first | decide | omega | (exact hpp))) (Exists.intro _ (And.intro rfl ?_)))) <;> try first | cases h1 | exact absurd h1 (by decide))
        all_goals
          have hcb : (cntN (partC L a s B) i : Int) * 2 ^ (L - 3) ≤ 8 * 2 ^ (L - 3) := Int.mul_le_mul_of_nonneg_right (by have := cntN_le (partC L a s B) i; omega) (by omega)
          have hc0 : 0 ≤ (cntN (partC L a s B) i : Int) * 2 ^ (L - 3) := Int.mul_nonneg (by omega) (by omega)
          have hoff := offN_lt (partC L a s B) i
          have h2i : (2 : Nat) ^ i ≤ 128 := Nat.pow_le_pow_right (by omega) (show i ≤ 7 by omega)
          have h2c : ((2 ^ i : Nat) : Int) = (2 : Int) ^ i := by simp
          have hw6 : IntKind.i64.wrap ((i : Int) + 1) = ((i + 1 : Nat) : Int) := wrap_succ (by omega : i < 9) (by omega)
          have hw7 : IntKind.i64.wrap ((cntN (partC L a s B) i : Int) * 2 ^ (L - 3) + 2 ^ (L - 3)) = ((cntN (partC L a s B) i + 1 : Nat) : Int) * 2 ^ (L - 3) := by
            rw [wrap64 (by omega), Int.natCast_add, Int.add_mul]; simp
          have hw8 : IntKind.i64.wrap ((offN (partC L a s B) i : Int) + 2 ^ (i : Int).toNat) = ((offN (partC L a s B) i + 2 ^ i : Nat) : Int) := by
            rw [Int.toNat_natCast, wrap64 (by omega)]; simp
          simp only [w1, w2, w3, w4, w5, beq_iff_eq, beq_eq_false_iff_ne, decide_eq_true_eq, decide_eq_false_iff_not, ge_iff_le] at h1
          try simp only [w1, w2, w3, w4, w5, beq_iff_eq, beq_eq_false_iff_ne, decide_eq_true_eq, decide_eq_false_iff_not, ge_iff_le] at *
          refine Exists.intro [] (Exists.intro (8 - (i + 1)) (And.intro (by omega) ⟨i + 1, by omega, rfl, ?_, ?_⟩))
        all_goals
          rcases Bool.eq_false_or_eq_true (partC L a s B i) with hc | hc
          all_goals first
            | (exfalso; simp only [partC, decide_eq_true_eq, decide_eq_false_iff_not] at hc; omega)
            | (simp only [cntN, offN, hc, if_true, Bool.false_eq_true, if_false, hw6, hw7, hw8, Nat.add_zero, regC]; done)
      · simp only [decide_eq_false_iff_not] at h2
        have : i = 8 := by omega
        subst this
        rcases cand_parts h8 ha hs hbb with h3 | ⟨h3, h4⟩
        · exact hk1 _ _ h3
        · have key : K (.tup [.agg (regC ⟨B, L, offN (partC L a s B) 8, false, false, false⟩), .v (.int .i64 ((cntN (partC L a s B) 8 : Int) * 2 ^ (L - 3)))]) [] := by
            rw [h4, show ((0 : Nat) : Int) * 2 ^ (L - 3) = 0 by simp]
            exact hk2 h3 _
          exact key
  · exact hp.elim

def covOk (a s : Int) : Bool := decide (0 ≤ a ∧ 0 ≤ s ∧ a % 32 = 0 ∧ s % 32 = 0 ∧ a + s ≤ 262144)
def covL (a s : Int) : List Rg := if covOk a s then coverF 8192 a s else []
theorem coverF_len : ∀ f a s, (coverF f a s).length ≤ f
  | 0, _, _ => by simp [coverF]
  | f + 1, a, s => by
    simp only [coverF]
    split
    · have := coverF_len f (a + (bestN a s 10).2) (s - (bestN a s 10).2)
      simp only [List.length_cons]
      omega
    · simp
theorem covL_len (a s : Int) : (covL a s).length ≤ 8192 := by
  unfold covL
  split
  · exact coverF_len _ _ _
  · simp
theorem covL_no {a s : Int} (h : covOk a s = false) : covL a s = [] := by simp [covL, h]
def hCover : CH := fun args hl K => match args, hl with
  | [.v (.int .i64 a), .v (.int .i64 s)], [] => I64 a ∧ I64 s ∧ K (.tup [.slc 0 0 (covL a s).length false, .v (.bool (covOk a s))]) [.lst 6 ((covL a s).map regC)]
  | _, _ => False
def cx_s_spec_Cover : Ctx := mkC [(196, callM [] false hBest)]
theorem cx_s_spec_Cover_ok : CtxOk Tryz.prog cx_s_spec_Cover := mkC_ok (mem1 ⟨s_l2Best, fnOk Tryz.func196 rfl rfl⟩ mem0)
set_option maxRecDepth 100000 in
set_option pp.maxSteps 1500 in
set_option maxHeartbeats 4000000 in
theorem s_spec_Cover : HSound Tryz.prog 143 (callM [] false hCover) := by
  refine callM_sound cx_s_spec_Cover_ok mixed Tryz.func143 rfl fun args hl K hp => ?_
  unfold hCover at hp
  split at hp
  · rename_i a s
    obtain ⟨ia, is, hp⟩ := hp
    simp only [I64] at ia is
    have t1 : 0 ≤ a → a.tmod 32 = a % 32 := Int.tmod_eq_emod_of_nonneg
    have t2 : 0 ≤ s → s.tmod 32 = s % 32 := Int.tmod_eq_emod_of_nonneg
    have hno : covOk a s = false → K (.tup [.slc 0 0 0 false, .v (.bool false)]) [.lst 6 []] := fun h => by
      have := hp
      rw [covL_no h, h] at this
      exact this
    repeat' ((first | refine And.intro (fun h1 => ?_) (fun h1 => ?_) | refine And.intro (by first | decide | omega | (decide)) ?_ | refine And.intro (show Region.lexB _ _ = true from by kernel_rfl) ?_ | refine And.intro (show wfB _ = true from by kernel_rfl) ?_ | refine And.intro (And.intro rfl rfl) ?_ | exact And.intro rfl rfl | apply HeldC.intro | exact AV.top | (apply HeldF.intro; refine Exists.intro _ (And.intro (by assumption) ?_); refine And.intro (by decide) ?_; exact And.intro rfl rfl) | (refine And.intro (by (refine Exists.intro _ (And.intro (by assumption) ?_); refine And.intro (by decide) ?_; exact And.intro rfl rfl)) ?_) | refine Or.inl ?_ | refine Exists.intro _ (And.intro (int_nat (by first | decide | omega | (decide))) (Exists.intro _ (And.intro rfl ?_)))) <;> try first | cases h1 | exact absurd h1 (by decide))
    rotate_right
    · have hok : covOk a s = true := by
        clear hp hno
        simp only [covOk, decide_eq_true_eq, decide_eq_false_iff_not, bne_eq_false_iff_eq] at *
        have w := wrap64 (x := a + s) (by omega)
        have q1 := t1 (by omega)
        have q2 := t2 (by omega)
        omega
      have hcl : covL a s = coverF 8192 a s := by simp [covL, hok]
      have hoks : 0 ≤ a ∧ 0 ≤ s ∧ a % 32 = 0 ∧ s % 32 = 0 ∧ a + s ≤ 262144 := of_decide_eq_true hok
      obtain ⟨a0, s0, am, sm, hle⟩ := hoks
      refine Exists.intro true (Exists.intro [0, 1, 6] (Exists.intro (fun m vs h => ∃ (f : Nat) (pre : List Rg) (x y : Int), m = y.toNat ∧ 0 ≤ x ∧ 0 ≤ y ∧ x % 32 = 0 ∧ y % 32 = 0 ∧ x + y ≤ 262144 ∧ y ≤ 32 * f ∧ pre.length + f ≤ 8192 ∧ pre ++ coverF f x y = covL a s ∧
        vs = [.v (.int .i64 x), .v (.int .i64 y), .slc 0 0 pre.length false] ∧ h = [.lst 6 (pre.map regC)]) (And.intro ?_ ?_)))
      · refine Exists.intro [] (And.intro closed_nil (Exists.intro s.toNat ?_))
        exact ⟨8192, [], a, s, rfl, a0, s0, am, sm, hle, by omega, by simp, by rw [hcl]; rfl, rfl, rfl⟩
      · intro m vs h hI
        obtain ⟨f, pre, x, y, rfl, x0, y0, xm, ym, hxy, hf, hpl, hpre, rfl, rfl⟩ := hI
        refine And.intro (fun h2 => ?_) (fun h2 => ?_)
        · simp only [decide_eq_true_eq, gt_iff_lt] at h2
          obtain ⟨g, rfl⟩ : ∃ g, f = g + 1 := ⟨f - 1, by omega⟩
          refine Exists.intro true (Exists.intro [0, 1, 6, 7, 8, 9] (Exists.intro (fun m vs h => ∃ k : Nat, k ≤ 10 ∧ m = 10 - k ∧ vs = [.v (.int .i64 x), .v (.int .i64 y), .slc 0 0 pre.length false, .ptr 1 0 0 6, .v (.int .i64 (bestN x y k).2), .v (.int .i64 (5 + (k : Int)))] ∧
            h = [.lst 6 (pre.map regC), .box (regC (bestN x y k).1)]) (And.intro ?_ ?_)))
          · refine Exists.intro [] (And.intro (closed_Region pre) (Exists.intro 10 ?_))
            exact ⟨0, by omega, rfl, rfl, rfl⟩
          · intro m vs h hI
            obtain ⟨k, hk, rfl, rfl, rfl⟩ := hI
            have hb := best_le (a := x) (s := y) x0 h2 k
            have hw5 : IntKind.i64.wrap (5 + (k : Int) + 1) = 5 + ((k + 1 : Nat) : Int) := by rw [wrap64 (by omega)]; omega
            refine And.intro (fun h3 => ?_) (fun h3 => ?_)
            · simp only [decide_eq_true_eq] at h3
              refine Exists.intro (5 + k) (And.intro (by omega) (And.intro (by omega) (And.intro (by omega) (And.intro x0 (And.intro h2 (And.intro hxy ?_))))))
              refine And.intro (fun r c hc => ?_) (fun hn r => ?_)
              · refine And.intro (fun h4 => ?_) (fun h4 => ?_)
                · simp only [decide_eq_true_eq, gt_iff_lt] at h4
                  refine Exists.intro [] (And.intro (closed_Region pre) (Exists.intro (10 - (k + 1)) (And.intro (by omega) ⟨k + 1, by omega, rfl, ?_, ?_⟩)))
                  · rw [hw5]; simp only [bestN, hc, h4, if_true]
                  · simp only [bestN, hc, h4, if_true]; rfl
                · simp only [decide_eq_false_iff_not, gt_iff_lt] at h4
                  refine Exists.intro [] (And.intro (closed_Region pre) (Exists.intro (10 - (k + 1)) (And.intro (by omega) ⟨k + 1, by omega, rfl, ?_, ?_⟩)))
                  · rw [hw5]; simp only [bestN, hc, h4, if_false]
                  · simp only [bestN, hc, h4, if_false]; rfl
              · refine And.intro (fun h4 => ?_) (fun h4 => ?_)
                · simp only [decide_eq_true_eq, gt_iff_lt] at h4
                  omega
                · refine Exists.intro [] (And.intro (closed_Region pre) (Exists.intro (10 - (k + 1)) (And.intro (by omega) ⟨k + 1, by omega, rfl, ?_, ?_⟩)))
                  · rw [hw5]; simp only [bestN, hn]
                  · simp only [bestN, hn]; rfl
            · simp only [decide_eq_false_iff_not] at h3
              have hk10 : k = 10 := by omega
              subst hk10
              have hbp := best_pos (a := x) (s := y) (by omega) xm
              have hbm := best_mod (a := x) (s := y) 10
              have hcf : coverF (g + 1) x y = (bestN x y 10).1 :: coverF g (x + (bestN x y 10).2) (y - (bestN x y 10).2) := by simp only [coverF, h2, if_true]
              rw [hcf] at hpre
              have hwa : IntKind.i64.wrap (x + (bestN x y 10).2) = x + (bestN x y 10).2 := wrap64 (by omega)
              have hwb : IntKind.i64.wrap (y - (bestN x y 10).2) = y - (bestN x y 10).2 := wrap64 (by omega)
              generalize (bestN x y 10).2 = c at *
              generalize (bestN x y 10).1 = r at *
              repeat' (first
                | refine Exists.intro [regC r] (And.intro rfl (And.intro rfl (And.intro (reg_notSl r) ?_)))
                | refine And.intro (List.length_map _) ?_
                | refine And.intro (by simp; omega) ?_)
              refine Exists.intro [] (And.intro (closed_app (closed_Region pre) (closed_Region [r])) (Exists.intro (y - c).toNat (And.intro (by omega) ⟨g, pre ++ [r], x + c, y - c, rfl, by omega, by omega, by omega, by omega, by omega, by omega, by simp; omega, by rw [← hpre]; simp, ?_, ?_⟩)))
              · rw [hwa, hwb]; simp
              · simp
        · simp only [decide_eq_false_iff_not, gt_iff_lt] at h2
          have hy : y = 0 := by omega
          subst hy
          have he : coverF f x 0 = [] := by cases f <;> simp [coverF]
          rw [he, List.append_nil] at hpre
          subst hpre
          rw [hok] at hp
          refine And.intro (closed_Region _) ?_
          exact hp
    all_goals
      refine And.intro closed_nil (hno ?_)
      clear hp hno
      simp only [covOk, decide_eq_true_eq, decide_eq_false_iff_not, bne_iff_ne, ne_eq] at *
      first
        | omega
        | (have w := wrap64 (x := a + s) (by omega); omega)
        | (have q1 := t1 (by omega); omega)
        | (have q1 := t2 (by omega); omega)
  · exact hp.elim
end Go.Proofs.YtbfjkjdbdejnmaaGreat.Ab

/- Cover: the program's. No condition. -/
namespace Go.Proofs.YtbfjkjdbdejnmaaGreat.Ab

/-! ### The program's -/

theorem there_off : ∀ (f : Fin 8) (n : Fin 9), f.1 + n.1 ≤ 8 → IntKind.i64.wrap ((BitVec.ofInt IntKind.i64.bits 255 &&& ~~~ BitVec.ofInt IntKind.i64.bits (IntKind.i64.wrap (IntKind.i64.wrap (IntKind.i64.wrap (1 * 2 ^ min n.1 IntKind.i64.bits) - 1) * 2 ^ min f.1 IntKind.i64.bits))).toNat : Nat) = offN (inB f.1 n.1) 8 := by decide +kernel
theorem fin_xb {K : AV → HP → Prop} {h : HP} {x : AV} {p q : Bool} (hp : K (.tup [x, .v (.bool p)]) h) (e : p = q) : K (.tup [x, .v (.bool q)]) h := e ▸ hp
def hFrom : CH := fun args hl K => match args, hl with
  | [.v (.int .i64 l), .v (.int .i64 a), .v (.int .i64 e)], [] => ∃ L : Nat, l = L ∧ 5 ≤ L ∧ L ≤ 14 ∧ 0 ≤ a ∧ a < e ∧ e ≤ 262144 ∧
      (∀ r c, candF L a (e - a) = some (r, c) → K (.tup [.agg (regC r ++ [.v (.int .i64 c)]), .v (.bool true)]) []) ∧ (candF L a (e - a) = none → ∀ r c, K (.tup [.agg (regC r ++ [.v (.int .i64 c)]), .v (.bool false)]) [])
  | _, _ => False
def cx_s_from : Ctx := mkC []
theorem cx_s_from_ok : CtxOk Tryz.prog cx_s_from := cx0_ok
set_option maxRecDepth 100000 in
set_option pp.maxSteps 1500 in
set_option maxHeartbeats 4000000 in
theorem s_from : HSound Tryz.prog 157 (callM [] false hFrom) := by
  refine callM_sound cx_s_from_ok mixed Tryz.func157 rfl fun args hl K hp => ?_
  unfold hFrom at hp
  split at hp
  · rename_i l a e
    obtain ⟨L, rfl, h5, h14, ha, hs, hle, hk1, hk2⟩ := hp
    obtain ⟨p0, p1⟩ := pow14 (b := L) (by omega) (by omega)
    have hsh := shl14 (b := L) (by omega) (by omega)
    simp only [Int.toNat_natCast] at p0 p1 hsh
    have hw : (0 : Int) < 2 ^ L := pow_pos' L
    refine And.intro (by omega) ?_
    simp only [Int.toNat_natCast]
    rw [hsh]
    have htm : a.tmod (2 ^ L) = a % 2 ^ L := Int.tmod_eq_emod_of_nonneg ha
    have hpne : IntKind.i64.wrap ((2 ^ L : Int).tdiv 8) ≠ 0 := by
      rw [Int.tdiv_eq_ediv_of_nonneg (by omega), wrap64 (by omega)]
      omega
    repeat' ((first | refine And.intro (fun h1 => ?_) (fun h1 => ?_) | refine And.intro (by first | decide | omega | ((first | exact Int.ne_of_gt hw | exact hpne))) ?_ | refine And.intro (show Region.lexB _ _ = true from by kernel_rfl) ?_ | refine And.intro (show wfB _ = true from by kernel_rfl) ?_ | refine And.intro (And.intro rfl rfl) ?_ | exact And.intro rfl rfl | apply HeldC.intro | exact AV.top | (apply HeldF.intro; refine Exists.intro _ (And.intro (by assumption) ?_); refine And.intro (by decide) ?_; exact And.intro rfl rfl) | (refine And.intro (by (refine Exists.intro _ (And.intro (by assumption) ?_); refine And.intro (by decide) ?_; exact And.intro rfl rfl)) ?_) | refine Or.inl ?_ | refine Exists.intro _ (And.intro (int_nat (by first | decide | omega | ((first | exact Int.ne_of_gt hw | exact hpne)))) (Exists.intro _ (And.intro rfl ?_)))) <;> try first | cases h1 | exact absurd h1 (by decide))
    · have h2 : L < 8 := by have := of_decide_eq_true (by assumption : decide ((L : Int) < 8) = true); omega
      have hm : a % 2 ^ L = 0 := by rw [← htm]; simpa using h1
      have hw2 : IntKind.i64.wrap (a + 2 ^ L) = a + 2 ^ L := wrap64 (by omega)
      by_cases hq : a + 2 ^ L ≤ e
      · refine fin_xb (hk1 ⟨a, L, 0, false, false, false⟩ (2 ^ L) ?_) (by rw [hw2]; simpa using hq)
        simp only [candF, h2, if_true]
        rw [if_pos ⟨hm, by omega⟩]
      · refine fin_xb (hk2 ?_ ⟨a, L, 0, false, false, false⟩ (2 ^ L)) (by rw [hw2]; simpa using hq)
        simp only [candF, h2, if_true]
        rw [if_neg (by omega)]
    · have h2 : L < 8 := by have := of_decide_eq_true (by assumption : decide ((L : Int) < 8) = true); omega
      have hm : a % 2 ^ L ≠ 0 := by rw [← htm]; simpa using h1
      refine hk2 ?_ ⟨a, L, 0, false, false, false⟩ (2 ^ L)
      simp only [candF, h2, if_true]
      rw [if_neg (by omega)]
    all_goals
      have h8 : 8 ≤ L := by have := of_decide_eq_false (by assumption : decide ((L : Int) < 8) = false); omega
      have hsp := pow_split h8
      have hp32 : (32 : Int) ≤ 2 ^ (L - 3) := pow_le (show 5 ≤ L - 3 by omega)
      have htd : IntKind.i64.wrap ((2 ^ L : Int).tdiv 8) = 2 ^ (L - 3) := by
        rw [Int.tdiv_eq_ediv_of_nonneg (by omega), wrap64 (by omega)]
        omega
      have htp : a.tmod (2 ^ (L - 3)) = a % 2 ^ (L - 3) := Int.tmod_eq_emod_of_nonneg ha
      obtain ⟨f0, f7, q0⟩ := part_nums (s := e - a) h8 ha (by omega)
      have hf : IntKind.i64.wrap ((a.tmod (2 ^ L)).tdiv (2 ^ (L - 3))) = a % 2 ^ L / 2 ^ (L - 3) := by
        rw [htm, Int.tdiv_eq_ediv_of_nonneg (Int.emod_nonneg _ (Int.ne_of_gt hw)), wrap64 (by omega)]
      have hq : IntKind.i64.wrap ((IntKind.i64.wrap (e - a)).tdiv (2 ^ (L - 3))) = (e - a) / 2 ^ (L - 3) := by
        have := Int.ediv_le_self (a := e - a) (2 ^ (L - 3)) (by omega)
        rw [wrap64 (x := e - a) (by omega), Int.tdiv_eq_ediv_of_nonneg (by omega), wrap64 (by omega)]
      have hfp : a % 2 ^ L / 2 ^ (L - 3) * 2 ^ (L - 3) ≤ 7 * 2 ^ (L - 3) := Int.mul_le_mul_of_nonneg_right f7 (by omega)
      have hfp0 : 0 ≤ a % 2 ^ L / 2 ^ (L - 3) * 2 ^ (L - 3) := Int.mul_nonneg f0 (by omega)
      have hcand : candF L a (e - a) = if a % 2 ^ (L - 3) = 0 ∧ 1 ≤ min (8 - a % 2 ^ L / 2 ^ (L - 3)) ((e - a) / 2 ^ (L - 3)) then some ((⟨a - a % 2 ^ L / 2 ^ (L - 3) * 2 ^ (L - 3), L, offN (inB (a % 2 ^ L / 2 ^ (L - 3)).toNat (min (8 - a % 2 ^ L / 2 ^ (L - 3)) ((e - a) / 2 ^ (L - 3))).toNat) 8, false, false, false⟩ : Rg), min (8 - a % 2 ^ L / 2 ^ (L - 3)) ((e - a) / 2 ^ (L - 3)) * 2 ^ (L - 3)) else none := by
        simp only [candF, if_neg (show ¬ L < 8 by omega)]
      simp only [htd, hf, hq, htp] at *
      generalize a % 2 ^ L / 2 ^ (L - 3) = f at *
      generalize (e - a) / 2 ^ (L - 3) = q at *
      have he8 : IntKind.i64.wrap (8 - f) = 8 - f := wrap64 (by omega)
      have hmin : (if q < 8 - f then q else 8 - f) = min (8 - f) q := by
        split <;> omega
      simp only [he8, hmin] at *
    · refine hk2 ?_ ⟨_, _, _, _, _, _⟩ _
      rw [hcand, if_neg]
      simp only [bne_iff_ne, ne_eq] at h1
      exact fun h => h1 h.1
    · refine hk2 ?_ ⟨_, _, _, _, _, _⟩ _
      rw [hcand, if_neg]
      simp only [decide_eq_true_eq] at h1
      exact fun h => by omega
    · have hm : a % 2 ^ (L - 3) = 0 := by
        have : (a % 2 ^ (L - 3) != 0) = false := by assumption
        simpa using this
      simp only [decide_eq_false_iff_not] at h1
      rw [if_pos ⟨hm, by omega⟩] at hcand
      generalize hn : min (8 - f) q = n at *
      repeat' ((first | refine And.intro (fun h1 => ?_) (fun h1 => ?_) | refine And.intro (by first | decide | omega | ((first | omega | trivial))) ?_ | refine And.intro (show Region.lexB _ _ = true from by kernel_rfl) ?_ | refine And.intro (show wfB _ = true from by kernel_rfl) ?_ | refine And.intro (And.intro rfl rfl) ?_ | exact And.intro rfl rfl | apply HeldC.intro | exact AV.top | (apply HeldF.intro; refine Exists.intro _ (And.intro (by assumption) ?_); refine And.intro (by decide) ?_; exact And.intro rfl rfl) | (refine And.intro (by (refine Exists.intro _ (And.intro (by assumption) ?_); refine And.intro (by decide) ?_; exact And.intro rfl rfl)) ?_) | refine Or.inl ?_ | refine Exists.intro _ (And.intro (int_nat (by first | decide | omega | ((first | omega | trivial)))) (Exists.intro _ (And.intro rfl ?_)))) <;> try first | cases h1 | exact absurd h1 (by decide))
      have hnp : n * 2 ^ (L - 3) ≤ 8 * 2 ^ (L - 3) := Int.mul_le_mul_of_nonneg_right (by omega) (by omega)
      have hnp0 : 0 ≤ n * 2 ^ (L - 3) := Int.mul_nonneg (by omega) (by omega)
      have hb1 : IntKind.i64.wrap (a - IntKind.i64.wrap (f * 2 ^ (L - 3))) = a - f * 2 ^ (L - 3) := by
        rw [wrap64 (x := f * 2 ^ (L - 3)) (by omega), wrap64 (by omega)]
      have hb2 : IntKind.i64.wrap (n * 2 ^ (L - 3)) = n * 2 ^ (L - 3) := wrap64 (by omega)
      have hb3 := there_off ⟨f.toNat, by omega⟩ ⟨n.toNat, by omega⟩ (by simp only; omega)
      simp only at hb3
      have key := hk1 _ _ hcand
      rw [← hb1, ← hb2, ← hb3] at key
      exact key
  · exact hp.elim

def hBetter : CH := fun args hl K => match args, hl with
  | [.agg [.v _, .v _, .v _, .v _, .v _, .v _, .v (.int .i64 c)], .agg [.v _, .v _, .v _, .v _, .v _, .v _, .v (.int .i64 d)]], [] => K (.v (.bool (decide (d < c)))) []
  | _, _ => False
def cx_s_better : Ctx := mkC []
theorem cx_s_better_ok : CtxOk Tryz.prog cx_s_better := cx0_ok
set_option maxRecDepth 100000 in
set_option pp.maxSteps 1500 in
theorem s_better : HSound Tryz.prog 156 (callM [] false hBetter) := by
  refine callM_sound cx_s_better_ok mixed Tryz.func156 rfl fun args hl K hp => ?_
  unfold hBetter at hp
  split at hp
  · exact hp
  · exact hp.elim
def hOffer : CH := fun args hl K => match args, hl with
  | [.ptr 0 0 0 _, .agg [.v (.int .i64 b), .v (.int .i64 l), .v (.int .i64 o), .v (.bool r), .v (.bool w), .v (.bool x), .v (.int .i64 c)]], [.box [.fn f [], .v b', .v l', .v o', .v r', .v w', .v x', .v (.int .i64 c'), .v (.bool sm)]] =>
      f = 156 ∧ ((sm = false ∨ c' < c) → K (.tup []) [.box [.fn f [], .v (.int .i64 b), .v (.int .i64 l), .v (.int .i64 o), .v (.bool r), .v (.bool w), .v (.bool x), .v (.int .i64 c), .v (.bool true)]]) ∧
        (sm = true → ¬ c' < c → K (.tup []) [.box [.fn f [], .v b', .v l', .v o', .v r', .v w', .v x', .v (.int .i64 c'), .v (.bool sm)]])
  | _, _ => False
def cx_s_offer : Ctx := mkC [(156, callM [] false hBetter)]
theorem cx_s_offer_ok : CtxOk Tryz.prog cx_s_offer := mkC_ok (mem1 ⟨s_better, fnOk Tryz.func156 rfl rfl⟩ mem0)
set_option maxRecDepth 100000 in
set_option pp.maxSteps 1500 in
theorem s_offer : HSound Tryz.prog 158 (callM [.rw] false hOffer) := by
  refine callM_sound cx_s_offer_ok mixed Tryz.func158 rfl fun args hl K hp => ?_
  unfold hOffer at hp
  split at hp
  · rename_i n b l o r w x c f b' l' o' r' w' x' c' sm
    obtain ⟨rfl, hk1, hk2⟩ := hp
    cases sm
    · repeat' ((first | refine And.intro (fun h1 => ?_) (fun h1 => ?_) | refine And.intro (by decide) ?_ | refine And.intro (show wfB _ = true from by kernel_rfl) ?_ | refine And.intro (And.intro rfl rfl) ?_ | exact And.intro rfl rfl | apply HeldC.intro | exact AV.top | (apply HeldF.intro; refine Exists.intro _ (And.intro (by assumption) ?_); refine And.intro (by decide) ?_; exact And.intro rfl rfl) | (refine And.intro (by (refine Exists.intro _ (And.intro (by assumption) ?_); refine And.intro (by decide) ?_; exact And.intro rfl rfl)) ?_) | refine Or.inl ?_) <;> try cases h1)
      exact hk1 (.inl rfl)
    repeat' ((first | refine And.intro (fun h1 => ?_) (fun h1 => ?_) | refine And.intro (by decide) ?_ | refine And.intro (show wfB _ = true from by kernel_rfl) ?_ | refine And.intro (And.intro rfl rfl) ?_ | exact And.intro rfl rfl | apply HeldC.intro | exact AV.top | (apply HeldF.intro; refine Exists.intro _ (And.intro (by assumption) ?_); refine And.intro (by decide) ?_; exact And.intro rfl rfl) | (refine And.intro (by (refine Exists.intro _ (And.intro (by assumption) ?_); refine And.intro (by decide) ?_; exact And.intro rfl rfl)) ?_) | refine Or.inl ?_) <;> try cases h1)
    · exact hk1 (.inr (by simpa using h1))
    · exact hk2 rfl (by simpa using h1)
  · exact hp.elim

theorem bestN_some {a s : Int} {k : Nat} {r : Rg} {c : Int} (h : candF (5 + k) a s = some (r, c)) (hl : (bestN a s k).2 < c) : bestN a s (k + 1) = (r, c) := by simp only [bestN, h, hl, if_true]
theorem bestN_less {a s : Int} {k : Nat} {r : Rg} {c : Int} (h : candF (5 + k) a s = some (r, c)) (hl : ¬ (bestN a s k).2 < c) : bestN a s (k + 1) = bestN a s k := by simp only [bestN, h, hl, if_false]
theorem bestN_none {a s : Int} {k : Nat} (h : candF (5 + k) a s = none) : bestN a s (k + 1) = bestN a s k := by simp only [bestN, h]
def bestC (b : Rg × Int) : List AV := regC b.1 ++ [.v (.int .i64 b.2), .v (.bool (decide (0 < b.2)))]
def cx_s_impl_Cover : Ctx := mkC [(157, callM [] false hFrom), (158, callM [.rw] false hOffer), (156, callM [] false hBetter)]
theorem cx_s_impl_Cover_ok : CtxOk Tryz.prog cx_s_impl_Cover := mkC_ok (mem1 ⟨s_from, fnOk Tryz.func157 rfl rfl⟩ (mem1 ⟨s_offer, fnOk Tryz.func158 rfl rfl⟩ (mem1 ⟨s_better, fnOk Tryz.func156 rfl rfl⟩ mem0)))
set_option maxRecDepth 100000 in
set_option pp.maxSteps 1500 in
set_option maxHeartbeats 4000000 in
theorem s_impl_Cover : HSound Tryz.prog 115 (callM [] false hCover) := by
  refine callM_sound cx_s_impl_Cover_ok mixed Tryz.func115 rfl fun args hl K hp => ?_
  unfold hCover at hp
  split at hp
  · rename_i a s
    obtain ⟨ia, is, hp⟩ := hp
    simp only [I64] at ia is
    have t1 : 0 ≤ a → a.tmod 32 = a % 32 := Int.tmod_eq_emod_of_nonneg
    have t2 : 0 ≤ s → s.tmod 32 = s % 32 := Int.tmod_eq_emod_of_nonneg
    have hno : covOk a s = false → K (.tup [.slc 0 0 0 false, .v (.bool false)]) [.lst 6 []] := fun h => by
      have := hp
      rw [covL_no h, h] at this
      exact this
    refine Or.inl ?_
    repeat' ((first | refine And.intro (fun h1 => ?_) (fun h1 => ?_) | refine And.intro (by decide) ?_) <;> try cases h1)
    rotate_right
    · have hok : covOk a s = true := by
        clear hp hno
        simp only [covOk, decide_eq_true_eq, decide_eq_false_iff_not, bne_eq_false_iff_eq] at *
        have w := wrap64 (x := 262144 - a) (by omega)
        have q1 := t1 (by omega)
        have q2 := t2 (by omega)
        omega
      have hcl : covL a s = coverF 8192 a s := by simp [covL, hok]
      have hoks : 0 ≤ a ∧ 0 ≤ s ∧ a % 32 = 0 ∧ s % 32 = 0 ∧ a + s ≤ 262144 := of_decide_eq_true hok
      obtain ⟨a0, s0, am, sm, hle⟩ := hoks
      have hae : IntKind.i64.wrap (a + s) = a + s := wrap64 (by omega)
      refine Or.inr ?_
      refine Exists.intro true (Exists.intro [6, 7, 8] (Exists.intro (fun m vs h => ∃ (f : Nat) (pre : List Rg) (x y : Int), m = y.toNat ∧ 0 ≤ x ∧ 0 ≤ y ∧ x % 32 = 0 ∧ y % 32 = 0 ∧ x + y ≤ 262144 ∧ y ≤ 32 * f ∧ pre.length + f ≤ 8192 ∧ pre ++ coverF f x y = covL a s ∧
        vs = [.slc 0 0 pre.length false, .v (.int .i64 (x + y)), .v (.int .i64 x)] ∧ h = [.lst 6 (pre.map regC)]) (And.intro ?_ ?_)))
      · refine Exists.intro [] (And.intro closed_nil (Exists.intro s.toNat ?_))
        exact ⟨8192, [], a, s, rfl, a0, s0, am, sm, hle, by omega, by simp, by rw [hcl]; rfl, by rw [hae]; rfl, rfl⟩
      · intro m vs h hI
        obtain ⟨f, pre, x, y, rfl, x0, y0, xm, ym, hxy, hf, hpl, hpre, rfl, rfl⟩ := hI
        refine And.intro (fun h2 => ?_) (fun h2 => ?_)
        · simp only [decide_eq_true_eq] at h2
          have h2 : 0 < y := by omega
          obtain ⟨g, rfl⟩ : ∃ g, f = g + 1 := ⟨f - 1, by omega⟩
          refine Exists.intro true (Exists.intro [6, 7, 8, 9, 10] (Exists.intro (fun m vs h => ∃ k : Nat, k ≤ 10 ∧ m = 10 - k ∧ vs = [.slc 0 0 pre.length false, .v (.int .i64 (x + y)), .v (.int .i64 x), .ptr 1 0 0 9, .v (.int .i64 (5 + (k : Int)))] ∧
            h = [.lst 6 (pre.map regC), .box (.fn 156 [] :: bestC (bestN x y k))]) (And.intro ?_ ?_)))
          · refine Exists.intro [] (And.intro (closed_Region pre) (Exists.intro 10 ?_))
            exact ⟨0, by omega, rfl, rfl, rfl⟩
          · intro m vs h hI
            obtain ⟨k, hk, rfl, rfl, rfl⟩ := hI
            have hb := best_le (a := x) (s := y) x0 h2 k
            have hw5 : IntKind.i64.wrap (5 + (k : Int) + 1) = 5 + ((k + 1 : Nat) : Int) := by rw [wrap64 (by omega)]; omega
            have hxe : x + y - x = y := by omega
            refine And.intro (fun h3 => ?_) (fun h3 => ?_)
            · simp only [decide_eq_true_eq] at h3
              refine Exists.intro (5 + k) (And.intro (by omega) (And.intro (by omega) (And.intro (by omega) (And.intro x0 (And.intro (by omega) (And.intro hxy ?_))))))
              rw [hxe]
              refine And.intro (fun r c hc => ?_) (fun hn r c => ?_)
              · have hc32 := cand_le x0 h2 (by omega) hc
                refine And.intro (fun _ => ?_) (fun h4 => by cases h4)
                refine And.intro rfl (And.intro (fun h4 => ?_) (fun h4 h5 => ?_))
                · have h4 : (bestN x y k).2 < c := by
                    rcases h4 with h4 | h4
                    · simp only [decide_eq_false_iff_not] at h4; omega
                    · exact h4
                  refine Exists.intro [] (And.intro (closed_Region pre) (Exists.intro (10 - (k + 1)) (And.intro (by omega) ⟨k + 1, by omega, rfl, ?_, ?_⟩)))
                  · rw [hw5]
                  · rw [bestN_some hc h4]
                    simp only [bestC, show decide (0 < c) = true by simp; omega]
                    rfl
                · refine Exists.intro [] (And.intro (closed_Region pre) (Exists.intro (10 - (k + 1)) (And.intro (by omega) ⟨k + 1, by omega, rfl, ?_, ?_⟩)))
                  · rw [hw5]
                  · rw [bestN_less hc h5]
                    rfl
              · refine And.intro (fun h4 => by cases h4) (fun _ => ?_)
                refine Exists.intro [] (And.intro (closed_Region pre) (Exists.intro (10 - (k + 1)) (And.intro (by omega) ⟨k + 1, by omega, rfl, ?_, ?_⟩)))
                · rw [hw5]
                · rw [bestN_none hn]; rfl
            · simp only [decide_eq_false_iff_not] at h3
              have hk10 : k = 10 := by omega
              subst hk10
              have hbp := best_pos (a := x) (s := y) (by omega) xm
              have hbm := best_mod (a := x) (s := y) 10
              have hcf : coverF (g + 1) x y = (bestN x y 10).1 :: coverF g (x + (bestN x y 10).2) (y - (bestN x y 10).2) := by simp only [coverF, h2, if_true]
              rw [hcf] at hpre
              have hwa : IntKind.i64.wrap (x + (bestN x y 10).2) = x + (bestN x y 10).2 := wrap64 (by omega)
              generalize bestN x y 10 = b at *
              obtain ⟨r, c⟩ := b
              simp only at *
              repeat' (first
                | refine Exists.intro [regC r] (And.intro rfl (And.intro rfl (And.intro (reg_notSl r) ?_)))
                | refine And.intro (List.length_map _) ?_
                | refine And.intro (by simp; omega) ?_)
              refine Exists.intro [] (And.intro (closed_app (closed_Region pre) (closed_Region [r])) (Exists.intro (y - c).toNat (And.intro (by omega) ⟨g, pre ++ [r], x + c, y - c, rfl, by omega, by omega, by omega, by omega, by omega, by omega, by simp; omega, by rw [← hpre]; simp, ?_, ?_⟩)))
              · rw [hwa, show x + c + (y - c) = x + y by omega]; simp
              · simp
        · simp only [decide_eq_false_iff_not] at h2
          have hy : y = 0 := by omega
          subst hy
          have he : coverF f x 0 = [] := by cases f <;> simp [coverF]
          rw [he, List.append_nil] at hpre
          subst hpre
          rw [hok] at hp
          refine And.intro (closed_Region _) ?_
          exact hp
    all_goals
      refine Or.inr ?_
      refine And.intro closed_nil (hno ?_)
      clear hp hno
      simp only [covOk, decide_eq_true_eq, decide_eq_false_iff_not, bne_iff_ne, bne_eq_false_iff_eq, ne_eq] at *
      first
        | omega
        | (have w := wrap64 (x := 262144 - a) (by omega); omega)
        | (have q1 := t1 (by omega); omega)
        | (have q1 := t2 (by omega); omega)
  · exact hp.elim
end Go.Proofs.YtbfjkjdbdejnmaaGreat.Ab

/- Plans: what they are, in plain words. No condition. -/
namespace Go.Proofs.YtbfjkjdbdejnmaaGreat.Ab
set_option linter.unusedVariables false
set_option linter.unusedSimpArgs false

def rgW (r w x : Bool) (g : Rg) : Rg := ⟨g.b, g.l, g.o, r, w, x⟩
def covW (a s : Int) (r w x : Bool) : List Rg := (covL a s).map (rgW r w x)
def pieceLen (m : Mo) (b : Int) : Nat := match pieceOf m b with | some ws => ws.length | none => 0
def originF (l : La) (p : Pl) (bank slot : Int) : Int := if bank = -1 then p.text else if slot < 0 then p.banks.getD bank.toNat 0 else l.slots.getD slot.toNat 0
def planL (l : La) (p : Pl) (m : Mo) (bank slot : Int) : List Rg :=
  covW p.data p.size true true false ++ covW l.stack (stackF l) true true false ++ covW 131072 32 false true false ++ covW (originF l p bank slot) (rup (4 * pieceLen m bank)) false false true
def slotB (l : La) (bank slot : Int) : Bool := if bank = -1 ∨ l.slots.length = 0 then decide (slot = -1) else decide (0 ≤ slot ∧ slot < l.slots.length)
def planF (ms : List Mo) (l : La) (mod bank slot : Int) : Option (List Rg) :=
  if 0 ≤ mod then match ms[mod.toNat]?, l.pls[mod.toNat]? with
    | some m, some p => if (pieceOf m bank).isSome && slotB l bank slot && decide ((planL l p m bank slot).length ≤ 8) then some (planL l p m bank slot) else none
    | _, _ => none
  else none
/-- What a layout that Link gives is like. -/
structure Lk (ms : List Mo) (l : La) : Prop where
  len : 1 ≤ ms.length ∧ ms.length ≤ 4
  mo : ∀ m ∈ ms, GoodM m
  pls : l.pls.length = ms.length
  bk : ∀ (i : Nat) p m, l.pls[i]? = some p → ms[i]? = some m → p.banks.length = m.banks.length ∧ I64 p.text ∧ I64 p.data ∧ I64 p.size ∧ ∀ b ∈ p.banks, I64 b
  slots : l.slots.length ≤ 4
  sl : ∀ s ∈ l.slots, I64 s
  stack : I64 l.stack
theorem bkP_i64 {bs : List (List Int)} (hb : ∀ b ∈ bs, b.length ≤ 64) {f : Nat} (hf : f ≤ 100000) : ∀ k, k ≤ 4 → ∀ x ∈ (bkP bs f k).1, I64 x
  | 0, _ => fun x hx => by simp [bkP] at hx
  | k + 1, hk => by
    unfold bkP
    split
    · intro x hx
      rcases List.mem_append.1 hx with h | h
      · exact bkP_i64 hb hf k (by omega) x h
      · simp at h
        subst h
        have := bkP_le hb f k
        simp only [I64]
        omega
    · exact bkP_i64 hb hf k (by omega)
theorem plP_get {ms : List Mo} : ∀ {n i : Nat} {m : Mo}, i < n → n ≤ ms.length → ms[i]? = some m → (plP ms n).1[i]? = some ⟨(plP ms i).2.1, (bkP m.banks ((plP ms i).2.1 + rup (4 * m.text.length)) m.banks.length).1, 65536 + ((plP ms i).2.2 : Int), moSz m⟩
  | 0, i, m, h, _, _ => by omega
  | n + 1, i, m, h, hn, hm => by
    have hl := plP_len (ms := ms) (i := n) (by omega)
    obtain ⟨m', hm'⟩ : ∃ m', ms[n]? = some m' := ⟨_, List.getElem?_eq_getElem (by omega)⟩
    rw [plP_at hm']
    rcases Nat.lt_or_ge i n with r | r
    · rw [List.getElem?_append_left (by omega)]
      exact plP_get r (by omega) hm
    · have : i = n := by omega
      subst this
      rw [hm] at hm'
      cases hm'
      rw [List.getElem?_append_right (by omega), hl, Nat.sub_self]
      rfl
theorem slP_i64 {w : Nat} (hw : w ≤ 64) {r : Nat} (hr : r ≤ 100000) : ∀ k, k ≤ 4 → ∀ x ∈ (slP w r k).1, I64 x
  | 0, _ => fun x hx => by simp [slP] at hx
  | k + 1, hk => by
    intro x hx
    rcases List.mem_append.1 hx with h | h
    · exact slP_i64 hw hr k (by omega) x h
    · simp at h
      subst h
      have := slP_le hw r k
      simp only [I64]
      omega
theorem lk_of {ms : List Mo} {l : La} {w : Int} (h : GivesP ms l w) : Lk ms l := by
  obtain ⟨hc, hl⟩ := h
  obtain ⟨⟨ca0, ca1, cb0, cb1, cc0, cc1, ccm⟩, ⟨ln0, ln1⟩, hgm, _⟩ := link_cfg hc
  simp only [cfL] at ca0 ca1 cb0 cb1 cc0 cc1 ccm
  obtain ⟨pb1, pb2⟩ := plP_le hgm ms.length
  refine ⟨⟨ln0, ln1⟩, hgm, ?_, ?_, by omega, ?_, ?_⟩
  · rw [← hl]
    exact plP_len (Nat.le_refl _)
  · intro i p m hp hm
    have hi := (List.getElem?_eq_some_iff.1 hm).1
    have e : l.pls = (plP ms ms.length).1 := by rw [← hl]; rfl
    rw [e, plP_get hi (Nat.le_refl _) hm] at hp
    cases hp
    have g := hgm m (List.mem_of_getElem? hm)
    obtain ⟨q1, q2⟩ := plP_le hgm i
    have h1 := rup_le (4 * m.text.length)
    have h2 := rup_le (m.data.length + m.bss.toNat)
    have h3 := g.tl
    have h4 := g.dl
    have h5 := g.bss
    refine ⟨bkP_len _ _ (Nat.le_refl _), ?_, ?_, ?_, ?_⟩
    · simp only [I64]; omega
    · simp only [I64]; omega
    · simp only [I64, moSz]; omega
    · exact bkP_i64 (fun b hb => (g.bk b hb).1) (by omega) _ g.bl
  · rw [← hl]
    exact slP_i64 (w := (cfL l w).words.toNat) (by simp only [cfL]; omega) (r := (plP ms ms.length).2.2 + (cfL l w).stack.toNat) (by simp only [cfL]; omega) _ (by simp only [cfL]; omega)
  · rw [← hl]
    show I64 (65536 + ((plP ms ms.length).2.2 : Int))
    simp only [I64]
    omega
end Go.Proofs.YtbfjkjdbdejnmaaGreat.Ab
