/- Drawn words and cores: exactly. No condition. -/
import Derived.Test.YtijjonafmmhhbaaGreatTDrawX
import Derived.Test.YtijjonafmmhhbaaGreatTInts2
namespace Go.Proofs.YtijjonafmmhhbaaGreat.Ab
set_option linter.unusedVariables false
set_option linter.unusedSimpArgs false

def wordX (bs : List Int) (p : Nat) : Int := encV (opX bs p) (dX (l3U (opX bs p)) (nxt bs (adv bs p))) (insA bs p) (insI bs p)
theorem wordX_bd (bs : List Int) (p : Nat) : 0 ≤ wordX bs p ∧ wordX bs p < 4294967296 := by
  unfold wordX encV
  split
  · rename_i h
    simp only [insOk, decide_eq_true_eq] at h
    have := l3U_cases (opX bs p)
    omega
  · omega
def hWordX : CH := fun args hl K => match args, hl with
  | [.ptr 0 0 0 _], [.box [.imm t z 1 l, .v (.int .i64 p)]] => ∃ (bs : List Int) (P : Nat), l = bs.map byteC ∧ BytesOk bs ∧ bs.length ≤ 1000 ∧ p = P ∧ P ≤ bs.length ∧ K (.v (.int .i64 (wordX bs P))) [.box [.imm t z 1 (bs.map byteC), .v (.int .i64 (insQ bs P))]]
  | _, _ => False
def cx_s_l3RandomX : Ctx := mkC [(64, callM [.rw] false hInsX), (63, callM [] false hEnc)]
theorem cx_s_l3RandomX_ok : CtxOk Tryz.prog cx_s_l3RandomX := mkC_ok (mem1 ⟨s_l3InsX, fnOk Tryz.func64 rfl rfl⟩ (mem1 ⟨s_spec_Encode, fnOk Tryz.func63 rfl rfl⟩ mem0))
set_option maxRecDepth 100000 in
set_option pp.maxSteps 1500 in
theorem s_l3RandomX : HSound Tryz.prog 26 (callM [.rw] false hWordX) := by
  refine callM_sound cx_s_l3RandomX_ok mixed Tryz.func26 rfl fun args hl K hp => ?_
  unfold hWordX at hp
  split at hp
  · obtain ⟨bs, P, rfl, hb, hn, rfl, hP, hp⟩ := hp
    refine Exists.intro bs (Exists.intro P (And.intro rfl (And.intro hb (And.intro hn (And.intro rfl (And.intro hP ?_))))))
    exact hp
  · exact hp.elim

def V8 (v : Int) : List Int := [v, IntKind.i64.wrap (65536 + v.tmod 32), 65536, IntKind.i64.wrap (4294967295 - v), 131072, IntKind.i64.wrap (v * 16777215), v.tmod 32, 0]
def valX (v : Int) : Int := litG (V8 v) (IntKind.i64.wrap (v.tdiv 32))
def crX (bs : List Int) (p : Nat) : Nat → List Int × Nat
  | 0 => ([], p)
  | i + 1 => ((crX bs p i).1 ++ [valX (nxt bs (crX bs p i).2)], adv bs (crX bs p i).2)
theorem crX_len (bs : List Int) (p : Nat) (n : Nat) : (crX bs p n).1.length = n := by
  induction n with
  | zero => rfl
  | succ n ih => simp [crX, ih]
theorem crX_p {bs : List Int} {p : Nat} (hp : p ≤ bs.length) (n : Nat) : (crX bs p n).2 ≤ bs.length := by
  induction n with
  | zero => exact hp
  | succ n ih => exact adv_le ih
/-- The registers drawn, how many are shown, Pc. -/
def drX (bs : List Int) (p : Nat) : List Int := if nxt bs p = 255 then (((crX bs (adv bs p) 8).1.set 7 65536).set 6 65560).set 0 4294967296 else ((crX bs (adv bs p) 8).1.set 7 65536).set 6 65560
def dnX (bs : List Int) (p : Nat) : Nat := if nxt bs p = 254 then 7 else 8
def dpX (bs : List Int) (p : Nat) : Int := if (nxt bs p).tmod 32 = 21 then IntKind.i64.wrap (IntKind.i64.wrap ((nxt bs p).tmod 4 * 4) + IntKind.i64.wrap (IntKind.i64.wrap ((nxt bs p).tdiv 32) + 1)) else IntKind.i64.wrap ((nxt bs p).tmod 4 * 4)
theorem drX_len (bs : List Int) (p : Nat) : (drX bs p).length = 8 := by
  unfold drX
  split <;> simp [crX_len]
def hCoreX : CH := fun args hl K => match args, hl with
  | [.ptr 0 0 0 _], [.box [.imm t z 1 l, .v (.int .i64 p)]] => ∃ (bs : List Int) (P : Nat), l = bs.map byteC ∧ BytesOk bs ∧ bs.length ≤ 1000 ∧ p = P ∧ P ≤ bs.length ∧
      K (.agg [.v (.int .i64 (dpX bs P)), .slc 1 0 (dnX bs P) false]) [.box [.imm t z 1 (bs.map byteC), .v (.int .i64 ((crX bs (adv bs P) 8).2 : Nat))], .lst 1 ((drX bs P).map intC)]
  | _, _ => False
theorem closed_AI (a b : List Int) : ClosedL (a.map intC ++ b.map intC) := by rw [← List.map_append]; exact closed_Int _
theorem int_notSl1 (bs : List Int) : ∀ e ∈ bs.map intC, ∀ x ∈ e, x.isSl = false := by
  intro e he x hx
  obtain ⟨b, _, rfl⟩ := List.mem_map.1 he
  simp [intC] at hx
  subst hx
  rfl
theorem eight8 {rs : List Int} (h : rs.length = 8) : ∃ a b c d e f g k : Int, rs = [a, b, c, d, e, f, g, k] := by
  match rs, h with
  | [a, b, c, d, e, f, g, k], _ => exact ⟨a, b, c, d, e, f, g, k, rfl⟩
def cx_s_l3DrawCoreX : Ctx := mkC [(24, callM [.rw] false hNextX)]
theorem cx_s_l3DrawCoreX_ok : CtxOk Tryz.prog cx_s_l3DrawCoreX := mkC_ok (mem1 ⟨s_nextX, fnOk Tryz.func24 rfl rfl⟩ mem0)
set_option maxRecDepth 100000 in
set_option pp.maxSteps 1500 in
set_option maxHeartbeats 16000000 in
theorem s_l3DrawCoreX : HSound Tryz.prog 25 (callM [.rw] false hCoreX) := by
  refine callM_sound cx_s_l3DrawCoreX_ok mixed Tryz.func25 rfl fun args hl K hp => ?_
  unfold hCoreX at hp
  split at hp
  · rename_i s t z l p
    obtain ⟨bs, P, rfl, hb, hn, rfl, hP, hp⟩ := hp
    obtain ⟨k0, k1⟩ := nxt_ok hb P
    refine Exists.intro bs (Exists.intro P (And.intro rfl (And.intro hb (And.intro hn (And.intro rfl (And.intro hP ?_))))))
    have hP2 := adv_le hP
    have hlen := crX_len bs (adv bs P) 8
    unfold drX dnX dpX at hp
    generalize nxt bs P = k at *
    generalize adv bs P = P2 at *
    refine And.intro (by decide) ?_
    refine Exists.intro true (Exists.intro [0, 2, 3, 4, 5] (Exists.intro (fun m vs h => ∃ i : Nat, i ≤ 8 ∧ m = 8 - i ∧ vs = [.ptr 0 0 0 s, .ptr 1 0 0 2, .v (.int .i64 k), .ptr 2 0 0 2, .v (.int .i64 i)] ∧
      h = [.box [.imm t z 1 (bs.map byteC), .v (.int .i64 (crX bs P2 i).2)], .box [.v (.int .i64 0), .sl 1 []], .box [.v (.int .i64 (IntKind.i64.wrap (k.tmod 4 * 4))), .sl 1 ((crX bs P2 i).1.map intC)]]) (And.intro ?_ ?_)))
    · refine Exists.intro [] ?_
      refine Exists.intro [] (And.intro rfl (And.intro rfl (And.intro closed_nil ?_)))
      refine Exists.intro 8 ?_
      exact ⟨0, by omega, rfl, rfl, rfl⟩
    · intro m vs h hI
      obtain ⟨i, hi, rfl, rfl, rfl⟩ := hI
      have hl := crX_len bs P2 i
      have hq := crX_p (bs := bs) (p := P2) hP2 i
      refine And.intro (fun h1 => ?_) (fun h1 => ?_)
      · have hlt : i < 8 := by have := of_decide_eq_true h1; omega
        have hst : crX bs P2 (i + 1) = ((crX bs P2 i).1 ++ [valX (nxt bs (crX bs P2 i).2)], adv bs (crX bs P2 i).2) := rfl
        generalize crX bs P2 i = Q at *
        obtain ⟨F, q⟩ := Q
        simp only at *
        refine Exists.intro bs (Exists.intro q (And.intro rfl (And.intro hb (And.intro hn (And.intro rfl (And.intro hq ?_))))))
        obtain ⟨v0, v1⟩ := nxt_ok hb q
        generalize nxt bs q = v at *
        obtain ⟨e0, e1⟩ := wrap_div (v := v) (n := 32) v0 v1 (by decide)
        have e2 : IntKind.i64.wrap (v.tdiv 32) < 8 := by rw [Int.tdiv_eq_ediv_of_nonneg v0, wrap64 (by omega)]; omega
        have ej : IntKind.i64.wrap (v.tdiv 32) = ((IntKind.i64.wrap (v.tdiv 32)).toNat : Int) := by omega
        have hj : (IntKind.i64.wrap (v.tdiv 32)).toNat < 8 := by omega
        have hg : ((V8 v).map intC)[0 + (IntKind.i64.wrap (v.tdiv 32)).toNat]? = some (intC (valX v)) := lit_at (ms := V8 v) hj
        refine Or.inl ?_
        refine And.intro (show wfB _ = true from by kernel_rfl) ?_
        repeat' (first
          | (apply HeldF.intro; refine Exists.intro _ (And.intro ej (And.intro hj ?_)); exact And.intro rfl rfl)
          | (apply HeldF.intro; refine Exists.intro _ (And.intro hg (And.intro (by decide) ?_)); exact And.intro rfl rfl)
          | refine Exists.intro _ (And.intro ej (And.intro hj ?_))
          | refine Exists.intro _ (And.intro hg (And.intro (by decide) ?_))
          | refine And.intro (And.intro (by decide) (And.intro rfl rfl)) ?_
          | refine And.intro (Exists.intro _ (And.intro ej (And.intro hj (And.intro rfl rfl)))) ?_
          | refine And.intro (Exists.intro _ (And.intro hg (And.intro (by decide) (And.intro rfl rfl)))) ?_
          | refine And.intro (by decide) ?_
          | (refine Exists.intro [intC (valX v)] ?_; refine And.intro rfl ?_; refine And.intro rfl ?_; refine And.intro (int_notSl1 [_]) ?_; refine And.intro rfl ?_; refine And.intro (by simp; omega) ?_; refine And.intro (by simp; omega) ?_; exact And.intro rfl rfl)
          | refine And.intro (show wfB _ = true from by kernel_rfl) ?_ | refine And.intro (And.intro rfl rfl) ?_ | exact And.intro rfl rfl | apply HeldC.intro | exact AV.top | (apply HeldF.intro; refine Exists.intro _ (And.intro (by assumption) ?_); refine And.intro (by decide) ?_; exact And.intro rfl rfl) | (refine And.intro (by (refine Exists.intro _ (And.intro (by assumption) ?_); refine And.intro (by decide) ?_; exact And.intro rfl rfl)) ?_) | refine Or.inl ?_
          | fail)
        have htk : ∀ (l : List Int) (x : Int), List.take ((l.map intC).length + [intC x].length) (l.map intC ++ [intC x]) = l.map intC ++ [intC x] := fun l x => by rw [← List.length_append, List.take_length]
        refine Exists.intro [] ?_
        refine Exists.intro [] (And.intro rfl (And.intro rfl (And.intro closed_nil ?_)))
        refine Exists.intro _ (And.intro (htk F _) (And.intro List.length_append (And.intro (closed_AI F [_]) ?_)))
        refine Exists.intro (8 - (i + 1)) (And.intro (by omega) ⟨i + 1, by omega, rfl, ?_, ?_⟩)
        · rw [wrap_succ hlt (by omega)]
        · rw [hst]
          simp only [List.map_append]
          rfl
      · have hi8 : i = 8 := by have := of_decide_eq_false h1; omega
        subst hi8
        generalize crX bs P2 8 = Q at *
        obtain ⟨F, q⟩ := Q
        simp only at *
        obtain ⟨f0, f1, f2, f3, f4, f5, f6, f7, rfl⟩ := eight8 hl
        refine Exists.intro 7 (And.intro rfl (And.intro (by simp; done) ?_))
        refine Exists.intro _ (And.intro rfl (And.intro (by decide) ?_))
        refine Exists.intro 6 (And.intro rfl (And.intro (by simp; done) ?_))
        refine Exists.intro _ (And.intro rfl (And.intro (by decide) ?_))
        repeat' ((first
          | refine And.intro (fun h1 => ?_) (fun h1 => ?_)
          | refine And.intro (by decide) ?_
          | refine Exists.intro 0 (And.intro rfl (And.intro (by simp; done) ?_))
          | refine Exists.intro 7 (And.intro rfl ?_)
          | refine Exists.intro _ (And.intro rfl (And.intro (by decide) ?_))
          | refine And.intro (show 7 ≤ _ by simp; done) ?_
          | refine And.intro (closed_Int [f0, f1, f2, f3, f4, f5, 65560, 65536]) ?_
          | refine And.intro (closed_Int [4294967296, f1, f2, f3, f4, f5, 65560, 65536]) ?_
          | fail) <;> try cases h1)
        all_goals rename_i c1 c2
        all_goals simp only [beq_iff_eq, beq_eq_false_iff_ne, ne_eq] at c1 c2 h1
        all_goals first
          | (exfalso; omega)
          | (first | rw [if_pos c1] at hp | rw [if_neg c1] at hp
             first | rw [if_pos c2] at hp | rw [if_neg c2] at hp
             first | rw [if_pos h1] at hp | rw [if_neg h1] at hp
             exact hp)
  · exact hp.elim
end Go.Proofs.YtijjonafmmhhbaaGreat.Ab
