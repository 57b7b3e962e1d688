/- Cover: the program's. No condition. -/
import Derived.Test.YtegcfogbdgmajaaTCover
namespace Go.Proofs.Ytegcfogbdgmajaa.Ab

/-! ### The program's -/

theorem there_off : ∀ (f : Fin 8) (n : Fin 9), f.1 + n.1 ≤ 8 → IntKind.i64.wrap ((BitVec.ofInt IntKind.i64.bits 255 &&& ~~~ BitVec.ofInt IntKind.i64.bits (IntKind.i64.wrap (IntKind.i64.wrap (IntKind.i64.wrap (1 * 2 ^ min n.1 IntKind.i64.bits) - 1) * 2 ^ min f.1 IntKind.i64.bits))).toNat : Nat) = offN (inB f.1 n.1) 8 := by decide +kernel
theorem fin_xb {K : AV → HP → Prop} {h : HP} {x : AV} {p q : Bool} (hp : K (.tup [x, .v (.bool p)]) h) (e : p = q) : K (.tup [x, .v (.bool q)]) h := e ▸ hp
def hFrom : CH := fun args hl K => match args, hl with
  | [.v (.int .i64 l), .v (.int .i64 a), .v (.int .i64 e)], [] => ∃ L : Nat, l = L ∧ 5 ≤ L ∧ L ≤ 14 ∧ 0 ≤ a ∧ a < e ∧ e ≤ 262144 ∧
      (∀ r c, candF L a (e - a) = some (r, c) → K (.tup [.agg (regC r ++ [.v (.int .i64 c)]), .v (.bool true)]) []) ∧ (candF L a (e - a) = none → ∀ r c, K (.tup [.agg (regC r ++ [.v (.int .i64 c)]), .v (.bool false)]) [])
  | _, _ => False
def cx_s_from : Ctx := mkC []
theorem cx_s_from_ok : CtxOk Try.prog cx_s_from := cx0_ok
set_option maxRecDepth 100000 in
set_option pp.maxSteps 1500 in
set_option maxHeartbeats 4000000 in
theorem s_from : HSound Try.prog 91 (callM [] false hFrom) := by
  refine callM_sound cx_s_from_ok mixed Try.func91 rfl fun args hl K hp => ?_
  unfold hFrom at hp
  split at hp
  · rename_i l a e
    obtain ⟨L, rfl, h5, h14, ha, hs, hle, hk1, hk2⟩ := hp
    obtain ⟨p0, p1⟩ := pow14 (b := L) (by omega) (by omega)
    have hsh := shl14 (b := L) (by omega) (by omega)
    simp only [Int.toNat_natCast] at p0 p1 hsh
    have hw : (0 : Int) < 2 ^ L := pow_pos' L
    refine And.intro (by omega) ?_
    simp only [Int.toNat_natCast]
    rw [hsh]
    have htm : a.tmod (2 ^ L) = a % 2 ^ L := Int.tmod_eq_emod_of_nonneg ha
    have hpne : IntKind.i64.wrap ((2 ^ L : Int).tdiv 8) ≠ 0 := by
      rw [Int.tdiv_eq_ediv_of_nonneg (by omega), wrap64 (by omega)]
      omega
    repeat' ((first | refine And.intro (fun h1 => ?_) (fun h1 => ?_) | refine And.intro (by first | decide | omega | ((first | exact Int.ne_of_gt hw | exact hpne))) ?_ | refine And.intro (show Region.lexB _ _ = true from by kernel_rfl) ?_ | refine And.intro (show wfB _ = true from by kernel_rfl) ?_ | refine And.intro (And.intro rfl rfl) ?_ | exact And.intro rfl rfl | apply HeldC.intro | exact AV.top | (apply HeldF.intro; refine Exists.intro _ (And.intro (by assumption) ?_); refine And.intro (by decide) ?_; exact And.intro rfl rfl) | (refine And.intro (by (refine Exists.intro _ (And.intro (by assumption) ?_); refine And.intro (by decide) ?_; exact And.intro rfl rfl)) ?_) | refine Or.inl ?_ | refine Exists.intro _ (And.intro (int_nat (by first | decide | omega | ((first | exact Int.ne_of_gt hw | exact hpne)))) (Exists.intro _ (And.intro rfl ?_)))) <;> try first | cases h1 | exact absurd h1 (by decide))
    · have h2 : L < 8 := by have := of_decide_eq_true (by assumption : decide ((L : Int) < 8) = true); omega
      have hm : a % 2 ^ L = 0 := by rw [← htm]; simpa using h1
      have hw2 : IntKind.i64.wrap (a + 2 ^ L) = a + 2 ^ L := wrap64 (by omega)
      by_cases hq : a + 2 ^ L ≤ e
      · refine fin_xb (hk1 ⟨a, L, 0, false, false, false⟩ (2 ^ L) ?_) (by rw [hw2]; simpa using hq)
        simp only [candF, h2, if_true]
        rw [if_pos ⟨hm, by omega⟩]
      · refine fin_xb (hk2 ?_ ⟨a, L, 0, false, false, false⟩ (2 ^ L)) (by rw [hw2]; simpa using hq)
        simp only [candF, h2, if_true]
        rw [if_neg (by omega)]
    · have h2 : L < 8 := by have := of_decide_eq_true (by assumption : decide ((L : Int) < 8) = true); omega
      have hm : a % 2 ^ L ≠ 0 := by rw [← htm]; simpa using h1
      refine hk2 ?_ ⟨a, L, 0, false, false, false⟩ (2 ^ L)
      simp only [candF, h2, if_true]
      rw [if_neg (by omega)]
    all_goals
      have h8 : 8 ≤ L := by have := of_decide_eq_false (by assumption : decide ((L : Int) < 8) = false); omega
      have hsp := pow_split h8
      have hp32 : (32 : Int) ≤ 2 ^ (L - 3) := pow_le (show 5 ≤ L - 3 by omega)
      have htd : IntKind.i64.wrap ((2 ^ L : Int).tdiv 8) = 2 ^ (L - 3) := by
        rw [Int.tdiv_eq_ediv_of_nonneg (by omega), wrap64 (by omega)]
        omega
      have htp : a.tmod (2 ^ (L - 3)) = a % 2 ^ (L - 3) := Int.tmod_eq_emod_of_nonneg ha
      obtain ⟨f0, f7, q0⟩ := part_nums (s := e - a) h8 ha (by omega)
      have hf : IntKind.i64.wrap ((a.tmod (2 ^ L)).tdiv (2 ^ (L - 3))) = a % 2 ^ L / 2 ^ (L - 3) := by
        rw [htm, Int.tdiv_eq_ediv_of_nonneg (Int.emod_nonneg _ (Int.ne_of_gt hw)), wrap64 (by omega)]
      have hq : IntKind.i64.wrap ((IntKind.i64.wrap (e - a)).tdiv (2 ^ (L - 3))) = (e - a) / 2 ^ (L - 3) := by
        have := Int.ediv_le_self (a := e - a) (2 ^ (L - 3)) (by omega)
        rw [wrap64 (x := e - a) (by omega), Int.tdiv_eq_ediv_of_nonneg (by omega), wrap64 (by omega)]
      have hfp : a % 2 ^ L / 2 ^ (L - 3) * 2 ^ (L - 3) ≤ 7 * 2 ^ (L - 3) := Int.mul_le_mul_of_nonneg_right f7 (by omega)
      have hfp0 : 0 ≤ a % 2 ^ L / 2 ^ (L - 3) * 2 ^ (L - 3) := Int.mul_nonneg f0 (by omega)
      have hcand : candF L a (e - a) = if a % 2 ^ (L - 3) = 0 ∧ 1 ≤ min (8 - a % 2 ^ L / 2 ^ (L - 3)) ((e - a) / 2 ^ (L - 3)) then some ((⟨a - a % 2 ^ L / 2 ^ (L - 3) * 2 ^ (L - 3), L, offN (inB (a % 2 ^ L / 2 ^ (L - 3)).toNat (min (8 - a % 2 ^ L / 2 ^ (L - 3)) ((e - a) / 2 ^ (L - 3))).toNat) 8, false, false, false⟩ : Rg), min (8 - a % 2 ^ L / 2 ^ (L - 3)) ((e - a) / 2 ^ (L - 3)) * 2 ^ (L - 3)) else none := by
        simp only [candF, if_neg (show ¬ L < 8 by omega)]
      simp only [htd, hf, hq, htp] at *
      generalize a % 2 ^ L / 2 ^ (L - 3) = f at *
      generalize (e - a) / 2 ^ (L - 3) = q at *
      have he8 : IntKind.i64.wrap (8 - f) = 8 - f := wrap64 (by omega)
      have hmin : (if q < 8 - f then q else 8 - f) = min (8 - f) q := by
        split <;> omega
      simp only [he8, hmin] at *
    · refine hk2 ?_ ⟨_, _, _, _, _, _⟩ _
      rw [hcand, if_neg]
      simp only [bne_iff_ne, ne_eq] at h1
      exact fun h => h1 h.1
    · refine hk2 ?_ ⟨_, _, _, _, _, _⟩ _
      rw [hcand, if_neg]
      simp only [decide_eq_true_eq] at h1
      exact fun h => by omega
    · have hm : a % 2 ^ (L - 3) = 0 := by
        have : (a % 2 ^ (L - 3) != 0) = false := by assumption
        simpa using this
      simp only [decide_eq_false_iff_not] at h1
      rw [if_pos ⟨hm, by omega⟩] at hcand
      generalize hn : min (8 - f) q = n at *
      repeat' ((first | refine And.intro (fun h1 => ?_) (fun h1 => ?_) | refine And.intro (by first | decide | omega | ((first | omega | trivial))) ?_ | refine And.intro (show Region.lexB _ _ = true from by kernel_rfl) ?_ | refine And.intro (show wfB _ = true from by kernel_rfl) ?_ | refine And.intro (And.intro rfl rfl) ?_ | exact And.intro rfl rfl | apply HeldC.intro | exact AV.top | (apply HeldF.intro; refine Exists.intro _ (And.intro (by assumption) ?_); refine And.intro (by decide) ?_; exact And.intro rfl rfl) | (refine And.intro (by (refine Exists.intro _ (And.intro (by assumption) ?_); refine And.intro (by decide) ?_; exact And.intro rfl rfl)) ?_) | refine Or.inl ?_ | refine Exists.intro _ (And.intro (int_nat (by first | decide | omega | ((first | omega | trivial)))) (Exists.intro _ (And.intro rfl ?_)))) <;> try first | cases h1 | exact absurd h1 (by decide))
      have hnp : n * 2 ^ (L - 3) ≤ 8 * 2 ^ (L - 3) := Int.mul_le_mul_of_nonneg_right (by omega) (by omega)
      have hnp0 : 0 ≤ n * 2 ^ (L - 3) := Int.mul_nonneg (by omega) (by omega)
      have hb1 : IntKind.i64.wrap (a - IntKind.i64.wrap (f * 2 ^ (L - 3))) = a - f * 2 ^ (L - 3) := by
        rw [wrap64 (x := f * 2 ^ (L - 3)) (by omega), wrap64 (by omega)]
      have hb2 : IntKind.i64.wrap (n * 2 ^ (L - 3)) = n * 2 ^ (L - 3) := wrap64 (by omega)
      have hb3 := there_off ⟨f.toNat, by omega⟩ ⟨n.toNat, by omega⟩ (by simp only; omega)
      simp only at hb3
      have key := hk1 _ _ hcand
      rw [← hb1, ← hb2, ← hb3] at key
      exact key
  · exact hp.elim

def hBetter : CH := fun args hl K => match args, hl with
  | [.agg [.v _, .v _, .v _, .v _, .v _, .v _, .v (.int .i64 c)], .agg [.v _, .v _, .v _, .v _, .v _, .v _, .v (.int .i64 d)]], [] => K (.v (.bool (decide (d < c)))) []
  | _, _ => False
def cx_s_better : Ctx := mkC []
theorem cx_s_better_ok : CtxOk Try.prog cx_s_better := cx0_ok
set_option maxRecDepth 100000 in
set_option pp.maxSteps 1500 in
theorem s_better : HSound Try.prog 90 (callM [] false hBetter) := by
  refine callM_sound cx_s_better_ok mixed Try.func90 rfl fun args hl K hp => ?_
  unfold hBetter at hp
  split at hp
  · exact hp
  · exact hp.elim
def hOffer : CH := fun args hl K => match args, hl with
  | [.ptr 0 0 0 _, .agg [.v (.int .i64 b), .v (.int .i64 l), .v (.int .i64 o), .v (.bool r), .v (.bool w), .v (.bool x), .v (.int .i64 c)]], [.box [.fn f [], .v b', .v l', .v o', .v r', .v w', .v x', .v (.int .i64 c'), .v (.bool sm)]] =>
      f = 90 ∧ ((sm = false ∨ c' < c) → K (.tup []) [.box [.fn f [], .v (.int .i64 b), .v (.int .i64 l), .v (.int .i64 o), .v (.bool r), .v (.bool w), .v (.bool x), .v (.int .i64 c), .v (.bool true)]]) ∧
        (sm = true → ¬ c' < c → K (.tup []) [.box [.fn f [], .v b', .v l', .v o', .v r', .v w', .v x', .v (.int .i64 c'), .v (.bool sm)]])
  | _, _ => False
def cx_s_offer : Ctx := mkC [(90, callM [] false hBetter)]
theorem cx_s_offer_ok : CtxOk Try.prog cx_s_offer := mkC_ok (mem1 ⟨s_better, fnOk Try.func90 rfl rfl⟩ mem0)
set_option maxRecDepth 100000 in
set_option pp.maxSteps 1500 in
theorem s_offer : HSound Try.prog 92 (callM [.rw] false hOffer) := by
  refine callM_sound cx_s_offer_ok mixed Try.func92 rfl fun args hl K hp => ?_
  unfold hOffer at hp
  split at hp
  · rename_i n b l o r w x c f b' l' o' r' w' x' c' sm
    obtain ⟨rfl, hk1, hk2⟩ := hp
    cases sm
    · repeat' ((first | refine And.intro (fun h1 => ?_) (fun h1 => ?_) | refine And.intro (by decide) ?_ | refine And.intro (show wfB _ = true from by kernel_rfl) ?_ | refine And.intro (And.intro rfl rfl) ?_ | exact And.intro rfl rfl | apply HeldC.intro | exact AV.top | (apply HeldF.intro; refine Exists.intro _ (And.intro (by assumption) ?_); refine And.intro (by decide) ?_; exact And.intro rfl rfl) | (refine And.intro (by (refine Exists.intro _ (And.intro (by assumption) ?_); refine And.intro (by decide) ?_; exact And.intro rfl rfl)) ?_) | refine Or.inl ?_) <;> try cases h1)
      exact hk1 (.inl rfl)
    repeat' ((first | refine And.intro (fun h1 => ?_) (fun h1 => ?_) | refine And.intro (by decide) ?_ | refine And.intro (show wfB _ = true from by kernel_rfl) ?_ | refine And.intro (And.intro rfl rfl) ?_ | exact And.intro rfl rfl | apply HeldC.intro | exact AV.top | (apply HeldF.intro; refine Exists.intro _ (And.intro (by assumption) ?_); refine And.intro (by decide) ?_; exact And.intro rfl rfl) | (refine And.intro (by (refine Exists.intro _ (And.intro (by assumption) ?_); refine And.intro (by decide) ?_; exact And.intro rfl rfl)) ?_) | refine Or.inl ?_) <;> try cases h1)
    · exact hk1 (.inr (by simpa using h1))
    · exact hk2 rfl (by simpa using h1)
  · exact hp.elim

theorem bestN_some {a s : Int} {k : Nat} {r : Rg} {c : Int} (h : candF (5 + k) a s = some (r, c)) (hl : (bestN a s k).2 < c) : bestN a s (k + 1) = (r, c) := by simp only [bestN, h, hl, if_true]
theorem bestN_less {a s : Int} {k : Nat} {r : Rg} {c : Int} (h : candF (5 + k) a s = some (r, c)) (hl : ¬ (bestN a s k).2 < c) : bestN a s (k + 1) = bestN a s k := by simp only [bestN, h, hl, if_false]
theorem bestN_none {a s : Int} {k : Nat} (h : candF (5 + k) a s = none) : bestN a s (k + 1) = bestN a s k := by simp only [bestN, h]
def bestC (b : Rg × Int) : List AV := regC b.1 ++ [.v (.int .i64 b.2), .v (.bool (decide (0 < b.2)))]
def cx_s_impl_Cover : Ctx := mkC [(91, callM [] false hFrom), (92, callM [.rw] false hOffer), (90, callM [] false hBetter)]
theorem cx_s_impl_Cover_ok : CtxOk Try.prog cx_s_impl_Cover := mkC_ok (mem1 ⟨s_from, fnOk Try.func91 rfl rfl⟩ (mem1 ⟨s_offer, fnOk Try.func92 rfl rfl⟩ (mem1 ⟨s_better, fnOk Try.func90 rfl rfl⟩ mem0)))
set_option maxRecDepth 100000 in
set_option pp.maxSteps 1500 in
set_option maxHeartbeats 4000000 in
theorem s_impl_Cover : HSound Try.prog 37 (callM [] false hCover) := by
  refine callM_sound cx_s_impl_Cover_ok mixed Try.func37 rfl fun args hl K hp => ?_
  unfold hCover at hp
  split at hp
  · rename_i a s
    obtain ⟨ia, is, hp⟩ := hp
    simp only [I64] at ia is
    have t1 : 0 ≤ a → a.tmod 32 = a % 32 := Int.tmod_eq_emod_of_nonneg
    have t2 : 0 ≤ s → s.tmod 32 = s % 32 := Int.tmod_eq_emod_of_nonneg
    have hno : covOk a s = false → K (.tup [.slc 0 0 0 false, .v (.bool false)]) [.lst 6 []] := fun h => by
      have := hp
      rw [covL_no h, h] at this
      exact this
    refine Or.inl ?_
    repeat' ((first | refine And.intro (fun h1 => ?_) (fun h1 => ?_) | refine And.intro (by decide) ?_) <;> try cases h1)
    rotate_right
    · have hok : covOk a s = true := by
        clear hp hno
        simp only [covOk, decide_eq_true_eq, decide_eq_false_iff_not, bne_eq_false_iff_eq] at *
        have w := wrap64 (x := 262144 - a) (by omega)
        have q1 := t1 (by omega)
        have q2 := t2 (by omega)
        omega
      have hcl : covL a s = coverF 8192 a s := by simp [covL, hok]
      have hoks : 0 ≤ a ∧ 0 ≤ s ∧ a % 32 = 0 ∧ s % 32 = 0 ∧ a + s ≤ 262144 := of_decide_eq_true hok
      obtain ⟨a0, s0, am, sm, hle⟩ := hoks
      have hae : IntKind.i64.wrap (a + s) = a + s := wrap64 (by omega)
      refine Or.inr ?_
      refine Exists.intro true (Exists.intro [6, 7, 8] (Exists.intro (fun m vs h => ∃ (f : Nat) (pre : List Rg) (x y : Int), m = y.toNat ∧ 0 ≤ x ∧ 0 ≤ y ∧ x % 32 = 0 ∧ y % 32 = 0 ∧ x + y ≤ 262144 ∧ y ≤ 32 * f ∧ pre.length + f ≤ 8192 ∧ pre ++ coverF f x y = covL a s ∧
        vs = [.slc 0 0 pre.length false, .v (.int .i64 (x + y)), .v (.int .i64 x)] ∧ h = [.lst 6 (pre.map regC)]) (And.intro ?_ ?_)))
      · refine Exists.intro [] (And.intro closed_nil (Exists.intro s.toNat ?_))
        exact ⟨8192, [], a, s, rfl, a0, s0, am, sm, hle, by omega, by simp, by rw [hcl]; rfl, by rw [hae]; rfl, rfl⟩
      · intro m vs h hI
        obtain ⟨f, pre, x, y, rfl, x0, y0, xm, ym, hxy, hf, hpl, hpre, rfl, rfl⟩ := hI
        refine And.intro (fun h2 => ?_) (fun h2 => ?_)
        · simp only [decide_eq_true_eq] at h2
          have h2 : 0 < y := by omega
          obtain ⟨g, rfl⟩ : ∃ g, f = g + 1 := ⟨f - 1, by omega⟩
          refine Exists.intro true (Exists.intro [6, 7, 8, 9, 10] (Exists.intro (fun m vs h => ∃ k : Nat, k ≤ 10 ∧ m = 10 - k ∧ vs = [.slc 0 0 pre.length false, .v (.int .i64 (x + y)), .v (.int .i64 x), .ptr 1 0 0 9, .v (.int .i64 (5 + (k : Int)))] ∧
            h = [.lst 6 (pre.map regC), .box (.fn 90 [] :: bestC (bestN x y k))]) (And.intro ?_ ?_)))
          · refine Exists.intro [] (And.intro (closed_Region pre) (Exists.intro 10 ?_))
            exact ⟨0, by omega, rfl, rfl, rfl⟩
          · intro m vs h hI
            obtain ⟨k, hk, rfl, rfl, rfl⟩ := hI
            have hb := best_le (a := x) (s := y) x0 h2 k
            have hw5 : IntKind.i64.wrap (5 + (k : Int) + 1) = 5 + ((k + 1 : Nat) : Int) := by rw [wrap64 (by omega)]; omega
            have hxe : x + y - x = y := by omega
            refine And.intro (fun h3 => ?_) (fun h3 => ?_)
            · simp only [decide_eq_true_eq] at h3
              refine Exists.intro (5 + k) (And.intro (by omega) (And.intro (by omega) (And.intro (by omega) (And.intro x0 (And.intro (by omega) (And.intro hxy ?_))))))
              rw [hxe]
              refine And.intro (fun r c hc => ?_) (fun hn r c => ?_)
              · have hc32 := cand_le x0 h2 (by omega) hc
                refine And.intro (fun _ => ?_) (fun h4 => by cases h4)
                refine And.intro rfl (And.intro (fun h4 => ?_) (fun h4 h5 => ?_))
                · have h4 : (bestN x y k).2 < c := by
                    rcases h4 with h4 | h4
                    · simp only [decide_eq_false_iff_not] at h4; omega
                    · exact h4
                  refine Exists.intro [] (And.intro (closed_Region pre) (Exists.intro (10 - (k + 1)) (And.intro (by omega) ⟨k + 1, by omega, rfl, ?_, ?_⟩)))
                  · rw [hw5]
                  · rw [bestN_some hc h4]
                    simp only [bestC, show decide (0 < c) = true by simp; omega]
                    rfl
                · refine Exists.intro [] (And.intro (closed_Region pre) (Exists.intro (10 - (k + 1)) (And.intro (by omega) ⟨k + 1, by omega, rfl, ?_, ?_⟩)))
                  · rw [hw5]
                  · rw [bestN_less hc h5]
                    rfl
              · refine And.intro (fun h4 => by cases h4) (fun _ => ?_)
                refine Exists.intro [] (And.intro (closed_Region pre) (Exists.intro (10 - (k + 1)) (And.intro (by omega) ⟨k + 1, by omega, rfl, ?_, ?_⟩)))
                · rw [hw5]
                · rw [bestN_none hn]; rfl
            · simp only [decide_eq_false_iff_not] at h3
              have hk10 : k = 10 := by omega
              subst hk10
              have hbp := best_pos (a := x) (s := y) (by omega) xm
              have hbm := best_mod (a := x) (s := y) 10
              have hcf : coverF (g + 1) x y = (bestN x y 10).1 :: coverF g (x + (bestN x y 10).2) (y - (bestN x y 10).2) := by simp only [coverF, h2, if_true]
              rw [hcf] at hpre
              have hwa : IntKind.i64.wrap (x + (bestN x y 10).2) = x + (bestN x y 10).2 := wrap64 (by omega)
              generalize bestN x y 10 = b at *
              obtain ⟨r, c⟩ := b
              simp only at *
              repeat' (first
                | refine Exists.intro [regC r] (And.intro rfl (And.intro rfl (And.intro (reg_notSl r) ?_)))
                | refine And.intro (List.length_map _) ?_
                | refine And.intro (by simp; omega) ?_)
              refine Exists.intro [] (And.intro (closed_app (closed_Region pre) (closed_Region [r])) (Exists.intro (y - c).toNat (And.intro (by omega) ⟨g, pre ++ [r], x + c, y - c, rfl, by omega, by omega, by omega, by omega, by omega, by omega, by simp; omega, by rw [← hpre]; simp, ?_, ?_⟩)))
              · rw [hwa, show x + c + (y - c) = x + y by omega]; simp
              · simp
        · simp only [decide_eq_false_iff_not] at h2
          have hy : y = 0 := by omega
          subst hy
          have he : coverF f x 0 = [] := by cases f <;> simp [coverF]
          rw [he, List.append_nil] at hpre
          subst hpre
          rw [hok] at hp
          refine And.intro (closed_Region _) ?_
          exact hp
    all_goals
      refine Or.inr ?_
      refine And.intro closed_nil (hno ?_)
      clear hp hno
      simp only [covOk, decide_eq_true_eq, decide_eq_false_iff_not, bne_iff_ne, bne_eq_false_iff_eq, ne_eq] at *
      first
        | omega
        | (have w := wrap64 (x := 262144 - a) (by omega); omega)
        | (have q1 := t1 (by omega); omega)
        | (have q1 := t2 (by omega); omega)
  · exact hp.elim
end Go.Proofs.Ytegcfogbdgmajaa.Ab
