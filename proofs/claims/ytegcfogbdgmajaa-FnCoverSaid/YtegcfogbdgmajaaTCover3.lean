/- Cover: what the regions have. No condition. -/
import Derived.Test.YtegcfogbdgmajaaTCover2
import Derived.Test.YtegcfogbdgmajaaTDrawR
namespace Go.Proofs.Ytegcfogbdgmajaa.Ab

theorem off_bit : ∀ (f : Fin 8) (n : Fin 9) (q : Fin 8), f.1 + n.1 ≤ 8 → ((offN (inB f.1 n.1) 8 / 2 ^ q.1 % 2 = 0) ↔ inB f.1 n.1 q.1 = true) := by decide +kernel
theorem off_le (c : Nat → Bool) : offN c 8 ≤ 255 := by have := offN_lt c 8; omega
/-- A region that has just the addresses from one on. -/
structure GoodR (r : Rg) (x c : Int) : Prop where
  ok : r.ok = true
  rr : r.r = false
  rw : r.w = false
  has : ∀ y, r.has y = decide (x ≤ y ∧ y < x + c)
  lo : r.b ≤ x
  hi : x + c ≤ r.b + 2 ^ r.l.toNat
  c32 : 32 ≤ c
  cm : c % 32 = 0
  bm : (x - r.b) % 32 = 0
theorem hasB_iff (b l o a : Int) : hasB b l o a = true ↔ (b ≤ a ∧ a < b + 2 ^ l.toNat ∧ (l < 8 ∨ o / 2 ^ (partB b l a).toNat % 2 = 0)) := by simp only [hasB, decide_eq_true_eq]
theorem cand_good {L : Nat} {a s : Int} {r : Rg} {c : Int} (h5 : 5 ≤ L) (h14 : L ≤ 14) (ha : 0 ≤ a) (hs : 0 < s) (hle : a + s ≤ 262144) (ham : a % 32 = 0) (h : candF L a s = some (r, c)) : GoodR r a c := by
  have hcm := cand_mod h5 h
  obtain ⟨hc32, hcs⟩ := cand_le ha hs h5 h
  have hw := pow_pos' L
  have hm0 := Int.emod_nonneg a (Int.ne_of_gt hw)
  have hm1 := Int.emod_lt_of_pos a hw
  have hreg := regOk_base h5 h14 ha (show a < 262144 by omega)
  by_cases h8 : L < 8
  · simp only [candF, h8, if_true] at h
    split at h
    · rename_i hc
      cases h
      refine ⟨by rw [hc.1, Int.sub_zero] at hreg; exact hreg, rfl, rfl, fun y => ?_, by simp, by simp, hc32, hcm, by simp⟩
      rw [Bool.eq_iff_iff, show Rg.has ⟨a, L, 0, false, false, false⟩ y = hasB a L 0 y from rfl, hasB_iff, decide_eq_true_eq]
      simp only [Int.toNat_natCast]
      constructor
      · exact fun h => ⟨h.1, h.2.1⟩
      · exact fun h => ⟨h.1, h.2, .inl (by omega)⟩
    · cases h
  · have h8 : 8 ≤ L := by omega
    obtain ⟨f0, f7, q0⟩ := part_nums (s := s) h8 ha hs
    have hp := pow_pos' (L - 3)
    have hsp := pow_split h8
    simp only [candF, if_neg (show ¬ L < 8 by omega)] at h
    split at h
    · rename_i hc
      cases h
      have hf : a % 2 ^ L / 2 ^ (L - 3) * 2 ^ (L - 3) = a % 2 ^ L := by
        refine Int.ediv_mul_cancel (Int.dvd_of_emod_eq_zero ?_)
        rw [hsp, Int.emod_emod_of_dvd _ (Int.dvd_mul_left _ _)]
        exact hc.1
      have hmul := mul32 (L := L - 3) (by omega) (a % 2 ^ L / 2 ^ (L - 3))
      generalize hfe : a % 2 ^ L / 2 ^ (L - 3) = f at *
      generalize hne : min (8 - f) (s / 2 ^ (L - 3)) = n at *
      have hn8 : f + n ≤ 8 := by omega
      have hle8 : (f + n) * 2 ^ (L - 3) ≤ 8 * 2 ^ (L - 3) := Int.mul_le_mul_of_nonneg_right hn8 (by omega)
      rw [Int.add_mul] at hle8
      have hoff := off_le (inB f.toNat n.toNat)
      refine ⟨?_, rfl, rfl, fun y => ?_, by simp only; omega, by simp only [Int.toNat_natCast]; omega, hc32, hcm, by simp only; omega⟩
      · rw [hf]
        simp only [Rg.ok, regOk, decide_eq_true_eq] at hreg ⊢
        omega
      · rw [Bool.eq_iff_iff, show Rg.has ⟨a - f * 2 ^ (L - 3), L, offN (inB f.toNat n.toNat) 8, false, false, false⟩ y = hasB (a - f * 2 ^ (L - 3)) L (offN (inB f.toNat n.toNat) 8) y from rfl, hasB_iff, decide_eq_true_eq]
        simp only [Int.toNat_natCast, partB]
        rw [show (2 : Int) ^ L / 8 = 2 ^ (L - 3) by omega, hf]
        have key : a - a % 2 ^ L ≤ y → y < a - a % 2 ^ L + 2 ^ L → (((offN (inB f.toNat n.toNat) 8 : Nat) : Int) / 2 ^ ((y - (a - a % 2 ^ L)) / 2 ^ (L - 3)).toNat % 2 = 0 ↔ a ≤ y ∧ y < a + n * 2 ^ (L - 3)) := by
          intro y0 y1
          have hq0 : 0 ≤ (y - (a - a % 2 ^ L)) / 2 ^ (L - 3) := Int.ediv_nonneg (by omega) (by omega)
          have hq8 : (y - (a - a % 2 ^ L)) / 2 ^ (L - 3) < 8 := Int.ediv_lt_of_lt_mul hp (by omega)
          have e1 : f ≤ (y - (a - a % 2 ^ L)) / 2 ^ (L - 3) ↔ a ≤ y := by
            rw [Int.le_ediv_iff_mul_le hp, hf]; omega
          have e2 : (y - (a - a % 2 ^ L)) / 2 ^ (L - 3) < f + n ↔ y < a + n * 2 ^ (L - 3) := by
            rw [Int.ediv_lt_iff_lt_mul hp, Int.add_mul, hf]; omega
          generalize (y - (a - a % 2 ^ L)) / 2 ^ (L - 3) = q at *
          have hb := off_bit ⟨f.toNat, by omega⟩ ⟨n.toNat, by omega⟩ ⟨q.toNat, by omega⟩ (by simp only; omega)
          simp only [inB, decide_eq_true_eq] at hb
          have hcast : ((offN (inB f.toNat n.toNat) 8 : Nat) : Int) / 2 ^ q.toNat % 2 = ((offN (inB f.toNat n.toNat) 8 / 2 ^ q.toNat % 2 : Nat) : Int) := by simp
          rw [hcast, show inB f.toNat n.toNat = inB f.toNat n.toNat from rfl]
          rw [← e1, ← e2]
          have hb' : (offN (inB f.toNat n.toNat) 8 / 2 ^ q.toNat % 2 = 0) ↔ (f.toNat ≤ q.toNat ∧ q.toNat < f.toNat + n.toNat) := hb
          constructor
          · intro h
            have := hb'.1 (by omega)
            omega
          · intro h
            have := hb'.2 (by omega)
            omega
        constructor
        · rintro ⟨y0, y1, h | h⟩
          · omega
          · exact (key y0 y1).1 h
        · intro h
          exact ⟨by omega, by omega, .inr ((key (by omega) (by omega)).2 h)⟩
    · cases h
theorem bestN_good {a s : Int} (ha : 0 ≤ a) (hs : 0 < s) (hle : a + s ≤ 262144) (ham : a % 32 = 0) : ∀ k, k ≤ 10 → bestN a s k = (zeroRegion, 0) ∨ GoodR (bestN a s k).1 a (bestN a s k).2
  | 0, _ => .inl rfl
  | k + 1, hk => by
    have ih := bestN_good ha hs hle ham k (by omega)
    cases hc : candF (5 + k) a s with
    | none => rw [bestN_none hc]; exact ih
    | some rc =>
      obtain ⟨r, c⟩ := rc
      by_cases hl : (bestN a s k).2 < c
      · rw [bestN_some hc hl]; exact .inr (cand_good (by omega) (by omega) ha hs hle ham hc)
      · rw [bestN_less hc hl]; exact ih
theorem best_good {a s : Int} (ha : 0 ≤ a) (hs : 32 ≤ s) (hle : a + s ≤ 262144) (ham : a % 32 = 0) : GoodR (bestN a s 10).1 a (bestN a s 10).2 := by
  rcases bestN_good ha (by omega) hle ham 10 (by omega) with h | h
  · have := best_pos hs ham
    rw [h] at this
    simp at this
  · exact h
/-- The address where the i-th region begins. -/
def covAt : Nat → Int → Int → Nat → Int
  | 0, a, _, _ => a
  | _ + 1, a, _, 0 => a
  | f + 1, a, s, i + 1 => if 0 < s then covAt f (a + (bestN a s 10).2) (s - (bestN a s 10).2) i else a
theorem cov_zero (f : Nat) (a s : Int) : covAt f a s 0 = a := by cases f <;> rfl
theorem cov_get : ∀ (f : Nat) {a s : Int} {i : Nat} {r : Rg}, 0 ≤ a → 0 ≤ s → a + s ≤ 262144 → a % 32 = 0 → s % 32 = 0 → (coverF f a s)[i]? = some r →
    ∃ c, GoodR r (covAt f a s i) c ∧ covAt f a s (i + 1) = covAt f a s i + c ∧ 0 ≤ covAt f a s i ∧ covAt f a s i + c ≤ 262144
  | 0, a, s, i, r, _, _, _, _, _, h => by simp [coverF] at h
  | f + 1, a, s, i, r, ha, hs, hle, ham, hsm, h => by
    simp only [coverF] at h
    split at h
    · rename_i h0
      have hg := best_good ha (show 32 ≤ s by omega) hle ham
      have hb := best_le (a := a) (s := s) ha h0 10
      have hbm := best_mod (a := a) (s := s) 10
      cases i with
      | zero =>
        simp at h
        subst h
        refine ⟨_, hg, ?_, ha, ?_⟩
        · simp only [covAt, h0, if_true, cov_zero]
        · simp only [covAt]; omega
      | succ i =>
        simp only [List.getElem?_cons_succ] at h
        obtain ⟨c, h1, h2, h3, h4⟩ := cov_get f (by omega) (by omega) (by omega) (by omega) (by omega) h
        refine ⟨c, ?_, ?_, ?_, ?_⟩ <;> simp only [covAt, h0, if_true] <;> first | exact h1 | exact h2 | exact h3 | exact h4
    · simp at h
theorem cov_end : ∀ (f : Nat) {a s : Int}, 0 ≤ a → 0 ≤ s → a + s ≤ 262144 → a % 32 = 0 → s % 32 = 0 → s ≤ 32 * f → covAt f a s (coverF f a s).length = a + s
  | 0, a, s, _, _, _, _, _, h => by simp [coverF, covAt]; omega
  | f + 1, a, s, ha, hs, hle, ham, hsm, h => by
    by_cases h0 : 0 < s
    · have hp := best_pos (a := a) (s := s) (by omega) ham
      have hb := best_le (a := a) (s := s) ha h0 10
      have hbm := best_mod (a := a) (s := s) 10
      simp only [coverF, h0, if_true, List.length_cons, covAt]
      rw [cov_end f (by omega) (by omega) (by omega) (by omega) (by omega) (by omega)]
      omega
    · have : s = 0 := by omega
      subst this
      simp [coverF, covAt]
def rd (r : Rg) : Rg := { r with r := true }
/-- What the regions let, one behind another. -/
theorem cov_one : ∀ (f : Nat) {a s : Int} (x n : Int) (acc : Bool), 0 ≤ a → 0 ≤ s → a + s ≤ 262144 → a % 32 = 0 → s % 32 = 0 → s ≤ 32 * f → (n = 1 ∨ n = 2) →
    ((coverF f a s).map rd).foldl (fun ok r => if r.has x then r.lets n else ok) acc = if a ≤ x ∧ x < a + s then decide (n = 1) else acc
  | 0, a, s, x, n, acc, ha, hs, _, _, _, h, _ => by
    simp only [coverF, List.map_nil, List.foldl_nil]
    rw [if_neg (by omega)]
  | f + 1, a, s, x, n, acc, ha, hs, hle, ham, hsm, h, hn => by
    by_cases h0 : 0 < s
    · have hg := best_good ha (show 32 ≤ s by omega) hle ham
      have hp := best_pos (a := a) (s := s) (by omega) ham
      have hb := best_le (a := a) (s := s) ha h0 10
      have hbm := best_mod (a := a) (s := s) 10
      simp only [coverF, h0, if_true, List.map_cons, List.foldl_cons]
      rw [cov_one f x n _ (by omega) (by omega) (by omega) (by omega) (by omega) (by omega) hn]
      have h1 : (rd (bestN a s 10).1).has x = decide (a ≤ x ∧ x < a + (bestN a s 10).2) := hg.has x
      have h2 : (rd (bestN a s 10).1).lets n = decide (n = 1) := by
        rcases hn with rfl | rfl
        · rfl
        · exact hg.rw
      rw [h1, h2]
      generalize (bestN a s 10).2 = c at *
      simp only [decide_eq_true_eq]
      by_cases c1 : a ≤ x ∧ x < a + c
      · rw [if_pos c1, if_pos (show a ≤ x ∧ x < a + s by omega)]
        split <;> rfl
      · rw [if_neg c1]
        by_cases c2 : a ≤ x ∧ x < a + s
        · rw [if_pos c2, if_pos (by omega)]
        · rw [if_neg c2, if_neg (by omega)]
    · have : s = 0 := by omega
      subst this
      simp only [coverF, Int.lt_irrefl, if_false, List.map_nil, List.foldl_nil]
      rw [if_neg (by omega)]
theorem allow_cov {a s : Int} (a0 : 0 ≤ a) (s0 : 0 ≤ s) (hle : a + s ≤ 262144) (am : a % 32 = 0) (sm : s % 32 = 0) (h8 : (coverF 8192 a s).length ≤ 8) (x n : Int) (hn : n = 1 ∨ n = 2) :
    allowB ((coverF 8192 a s).map rd) x 1 n = (decide (a ≤ x ∧ x < a + s) && decide (n = 1)) := by
  have hr : regsOk ((coverF 8192 a s).map rd) = true := by
    refine List.all_eq_true.2 fun q hq => ?_
    obtain ⟨r, hr, rfl⟩ := List.mem_map.1 hq
    obtain ⟨i, hi, rfl⟩ := List.mem_iff_getElem.1 hr
    obtain ⟨c, hg, _⟩ := cov_get 8192 a0 s0 hle am sm (List.getElem?_eq_getElem hi)
    exact hg.ok
  have h1 : oneB ((coverF 8192 a s).map rd) x n = (decide (a ≤ x ∧ x < a + s) && decide (n = 1)) := by
    rw [show oneB ((coverF 8192 a s).map rd) x n = ((coverF 8192 a s).map rd).foldl (fun ok r => if r.has x then r.lets n else ok) false from rfl, cov_one 8192 x n false a0 s0 hle am sm (by omega) hn]
    by_cases h : a ≤ x ∧ x < a + s
    · simp [h]
    · simp [h]
  have e : (List.range (1 : Int).toNat).all (fun i => oneB ((coverF 8192 a s).map rd) (x + (i : Int)) n) = oneB ((coverF 8192 a s).map rd) x n := by simp [List.range_succ]
  simp only [allowB, hr, e, h1, List.length_map]
  rw [decide_eq_true h8, decide_eq_true (show 1 ≤ n ∧ n ≤ 3 by omega)]
  simp [widthB]
end Go.Proofs.Ytegcfogbdgmajaa.Ab
