/- Drawn instructions: exactly. No condition. -/
import Derived.Test.YtijjonafmmhhbaaGreatTMemD
namespace Go.Proofs.YtijjonafmmhhbaaGreat.Ab
set_option linter.unusedVariables false
set_option linter.unusedSimpArgs false

def litG (l : List Int) (i : Int) : Int := l.getD i.toNat 0
theorem lit_at {ms : List Int} {j : Nat} (h : j < ms.length) : (ms.map intC)[0 + j]? = some (intC (ms.getD j 0)) := by
  rw [Nat.zero_add, List.getElem?_map, List.getElem?_eq_getElem h, List.getD_eq_getElem?_getD, List.getElem?_eq_getElem h]
  rfl
theorem tmod_toNat {k n : Int} (hk : 0 ≤ k) (hn : 0 < n) : k.tmod n = ((k.tmod n).toNat : Int) ∧ ((k.tmod n).toNat : Int) < n := by
  rw [Int.tmod_eq_emod_of_nonneg hk]
  have h1 := Int.emod_nonneg k (show n ≠ 0 by omega)
  have h2 := Int.emod_lt_of_pos k hn
  omega
def L25 : List Int := [2, 6, 15, 16, 19, 20, 21, 22, 23, 24, 25, 1, 3, 4, 5, 7, 8, 9, 10, 11, 12, 13, 14, 17, 18]
def L8 : List Int := [7, 6, 0, 1, 2, 7, 6, 3]
def dX (u v : Int) : Int := if u.tmod 2 = 1 then v.tmod 4 else 0
def aX (u v : Int) : Int := if (IntKind.i64.wrap (u.tdiv 2)).tmod 2 = 1 then litG L8 ((IntKind.i64.wrap (v.tdiv 4)).tmod 8) else 0
def i1X (op w : Int) : Int := if op = 16 ∨ op = 19 then IntKind.i64.wrap (IntKind.i64.wrap ((w.tmod 16).tdiv 4) * 4) else w.tmod 16
def i2X (op a i : Int) : Int := if a = 6 ∧ 13 < op then IntKind.i64.wrap (65532 - IntKind.i64.wrap (IntKind.i64.wrap (i.tdiv 4) * 4)) else i
def i3X (op v i : Int) : Int := if 20 ≤ op ∧ op ≤ 23 then (if 224 ≤ v then IntKind.i64.wrap (65535 - i.tmod 4) else i.tmod 4) else i
def i4X (op i : Int) : Int := if op = 24 then i.tmod 3 else i
def opX (bs : List Int) (p : Nat) : Int := litG L25 ((nxt bs p).tmod 25)
def insA (bs : List Int) (p : Nat) : Int := aX (l3U (opX bs p)) (nxt bs (adv bs p))
def insQ (bs : List Int) (p : Nat) : Nat := if IntKind.i64.wrap ((l3U (opX bs p)).tdiv 4) = 1 then adv bs (adv bs (adv bs p)) else adv bs (adv bs p)
def insI (bs : List Int) (p : Nat) : Int := if IntKind.i64.wrap ((l3U (opX bs p)).tdiv 4) = 1 then i4X (opX bs p) (i3X (opX bs p) (nxt bs (adv bs p)) (i2X (opX bs p) (insA bs p) (i1X (opX bs p) (nxt bs (adv bs (adv bs p)))))) else 0
def hInsX : CH := fun args hl K => match args, hl with
  | [.ptr 0 0 0 _], [.box [.imm t z 1 l, .v (.int .i64 p)]] => ∃ (bs : List Int) (P : Nat), l = bs.map byteC ∧ BytesOk bs ∧ bs.length ≤ 1000 ∧ p = P ∧ P ≤ bs.length ∧
      K (.agg [.v (.int .i64 (opX bs P)), .v (.int .i64 (dX (l3U (opX bs P)) (nxt bs (adv bs P)))), .v (.int .i64 (insA bs P)), .v (.int .i64 (insI bs P))]) [.box [.imm t z 1 (bs.map byteC), .v (.int .i64 (insQ bs P))]]
  | _, _ => False
theorem insQ_le {bs : List Int} {p : Nat} (h : p ≤ bs.length) : insQ bs p ≤ bs.length := by
  unfold insQ
  split
  · exact adv_le (adv_le (adv_le h))
  · exact adv_le (adv_le h)
def XL (s : Nat) (t z : Bool) (bs : List Int) (v u : Int) (q : Nat) (a b c d : Int) (vs : List AV) (h : HP) : Prop := vs = [.ptr 0 0 0 s, .ptr 1 0 0 4, .ptr 2 0 0 4, .v (.int .i64 v), .v (.int .i64 u)] ∧
  h = [.box [.imm t z 1 (bs.map byteC), .v (.int .i64 q)], .box [.v (.int .i64 0), .v (.int .i64 0), .v (.int .i64 0), .v (.int .i64 0)], .box [.v (.int .i64 a), .v (.int .i64 b), .v (.int .i64 c), .v (.int .i64 d)]]
theorem XL_fin {s : Nat} {t z : Bool} {bs : List Int} {v u : Int} {q q' : Nat} {a b c d a' b' c' d' : Int} (e0 : q' = q) (e1 : a' = a) (e2 : b' = b) (e3 : c' = c) (e4 : d' = d) : XL s t z bs v u q a b c d [.ptr 0 0 0 s, .ptr 1 0 0 4, .ptr 2 0 0 4, .v (.int .i64 v), .v (.int .i64 u)]
    [.box [.imm t z 1 (bs.map byteC), .v (.int .i64 q')], .box [.v (.int .i64 0), .v (.int .i64 0), .v (.int .i64 0), .v (.int .i64 0)], .box [.v (.int .i64 a'), .v (.int .i64 b'), .v (.int .i64 c'), .v (.int .i64 d')]] := by
  subst e0 e1 e2 e3 e4
  exact ⟨rfl, rfl⟩
def cx_s_l3InsX : Ctx := mkCut [(24, callM [.rw] false hNextX), (103, callM [] false hUses)]
theorem cx_s_l3InsX_ok : CtxOk Tryz.prog cx_s_l3InsX := mkCut_ok (mem1 ⟨s_nextX, fnOk Tryz.func24 rfl rfl⟩ (mem1 ⟨s_l3Uses, fnOk Tryz.func103 rfl rfl⟩ mem0))
set_option maxRecDepth 100000 in
set_option pp.maxSteps 1500 in
set_option maxHeartbeats 8000000 in
theorem s_l3InsX : HSound Tryz.prog 64 (callM [.rw] false hInsX) := by
  refine callM_sound cx_s_l3InsX_ok mixed Tryz.func64 rfl fun args hl K hp => ?_
  unfold hInsX at hp
  split at hp
  · rename_i s t z l p
    obtain ⟨bs, P, rfl, hb, hn, rfl, hP, hp⟩ := hp
    obtain ⟨k0, k1⟩ := nxt_ok hb P
    obtain ⟨v0, v1⟩ := nxt_ok hb (adv bs P)
    obtain ⟨w0, w1⟩ := nxt_ok hb (adv bs (adv bs P))
    have hq := insQ_le hP
    have hop : opX bs P = litG L25 ((nxt bs P).tmod 25) := rfl
    unfold insQ insI insA at hp
    obtain ⟨e25, l25⟩ := tmod_toNat (n := 25) k0 (by decide)
    refine Exists.intro bs (Exists.intro P (And.intro rfl (And.intro hb (And.intro hn (And.intro rfl (And.intro hP ?_))))))
    refine And.intro (by decide) ?_
    refine Exists.intro ((nxt bs P).tmod 25).toNat (And.intro e25 (And.intro (by omega) ?_))
    refine Exists.intro (intC (opX bs P)) (And.intro (lit_at (ms := L25) (by have : L25.length = 25 := rfl; omega)) (And.intro (by decide) ?_))
    refine Exists.intro bs (Exists.intro (adv bs P) (And.intro rfl (And.intro hb (And.intro hn (And.intro rfl (And.intro (adv_le hP) ?_))))))
    clear hop e25 l25 hq
    generalize opX bs P = op at *
    generalize nxt bs (adv bs P) = v at *
    have hv4 := wrap_div (v := v) (n := 4) v0 v1 (by decide)
    obtain ⟨e8, l8⟩ := tmod_toNat (k := IntKind.i64.wrap (v.tdiv 4)) (n := 8) hv4.1 (by decide)
    refine Or.inr (Exists.intro true (Exists.intro [0, 2, 4, 5, 6] (Exists.intro (XL s t z bs v (l3U op) (adv bs (adv bs P)) op (dX (l3U op) v) 0 0) (And.intro ?_ ?_))))
    · refine And.intro (by decide) ?_
      refine And.intro (fun h1 => ?_) (fun h1 => ?_)
      · refine And.intro (by decide) ?_
        refine Exists.intro [] ?_
        exact XL_fin rfl rfl (by simp at h1; simp [dX, h1]) rfl rfl
      · refine Exists.intro [] ?_
        exact XL_fin rfl rfl (by simp at h1; simp [dX, h1]) rfl rfl
    rintro vs h ⟨rfl, rfl⟩
    generalize l3U op = u at *
    refine Or.inr (Exists.intro true (Exists.intro [0, 2, 4, 5, 6] (Exists.intro (XL s t z bs v u (adv bs (adv bs P)) op (dX u v) (aX u v) 0) (And.intro ?_ ?_))))
    · refine And.intro (by decide) (And.intro (by decide) ?_)
      refine And.intro (fun h1 => ?_) (fun h1 => ?_)
      · refine And.intro (by decide) (And.intro (by decide) ?_)
        refine Exists.intro _ (And.intro e8 (And.intro (by omega) ?_))
        refine Exists.intro _ (And.intro (lit_at (ms := L8) (by have : L8.length = 8 := rfl; omega)) (And.intro (by decide) ?_))
        refine Exists.intro [] ?_
        exact XL_fin rfl rfl rfl (by simp at h1; simp [aX, h1, litG]) rfl
      · refine Exists.intro [] ?_
        exact XL_fin rfl rfl rfl (by simp at h1; simp [aX, h1]) rfl
    rintro vs h ⟨rfl, rfl⟩
    generalize hdd : dX u v = D at *
    generalize haa : aX u v = A at *
    refine Or.inl ?_
    refine And.intro (by decide) ?_
    refine And.intro (fun hu => ?_) (fun hu => ?_)
    · have hu : IntKind.i64.wrap (u.tdiv 4) = 1 := by simpa using hu
      rw [if_pos hu, if_pos hu] at hp
      refine Exists.intro bs (Exists.intro (adv bs (adv bs P)) (And.intro rfl (And.intro hb (And.intro hn (And.intro rfl (And.intro (adv_le (adv_le hP)) ?_))))))
      generalize nxt bs (adv bs (adv bs P)) = w at *
      generalize adv bs (adv bs (adv bs P)) = q at *
      refine And.intro (by decide) ?_
      refine Or.inr (Exists.intro true (Exists.intro [0, 2, 4, 5, 6] (Exists.intro (XL s t z bs v u q op D A (i1X op w)) (And.intro ?_ ?_))))
      · repeat' ((first | refine And.intro (fun h1 => ?_) (fun h1 => ?_) | refine And.intro (by decide) ?_ | refine Exists.intro [] ?_) <;> try cases h1)
        all_goals refine XL_fin rfl rfl rfl rfl ?_
        all_goals clear hp
        all_goals unfold i1X
        all_goals repeat' split
        all_goals first
          | rfl
          | (exfalso; simp at *; omega)
      rintro vs h ⟨rfl, rfl⟩
      generalize i1X op w = i at *
      refine Or.inr (Exists.intro true (Exists.intro [0, 2, 4, 5, 6] (Exists.intro (XL s t z bs v u q op D A (i2X op A i)) (And.intro ?_ ?_))))
      · repeat' ((first | refine And.intro (fun h1 => ?_) (fun h1 => ?_) | refine And.intro (by decide) ?_ | refine Exists.intro [] ?_) <;> try cases h1)
        all_goals refine XL_fin rfl rfl rfl rfl ?_
        all_goals clear hp
        all_goals unfold i2X
        all_goals repeat' split
        all_goals first
          | rfl
          | (exfalso; simp at *; omega)
      rintro vs h ⟨rfl, rfl⟩
      generalize i2X op A i = i at *
      refine Or.inr (Exists.intro true (Exists.intro [0, 2, 4, 5, 6] (Exists.intro (XL s t z bs v u q op D A (i3X op v i)) (And.intro ?_ ?_))))
      · repeat' ((first | refine And.intro (fun h1 => ?_) (fun h1 => ?_) | refine And.intro (by decide) ?_ | refine Exists.intro [] ?_) <;> try cases h1)
        all_goals refine XL_fin rfl rfl rfl rfl ?_
        all_goals clear hp
        all_goals unfold i3X
        all_goals repeat' split
        all_goals first
          | rfl
          | (exfalso; simp at *; omega)
      rintro vs h ⟨rfl, rfl⟩
      generalize i3X op v i = i at *
      repeat' ((first | refine And.intro (fun h1 => ?_) (fun h1 => ?_) | refine And.intro (by decide) ?_) <;> try cases h1)
      · have h1 : op = 24 := by simpa using h1
        rw [show i4X op i = i.tmod 3 from if_pos h1] at hp
        exact hp
      · have h1 : ¬ op = 24 := by simpa using h1
        rw [show i4X op i = i from if_neg h1] at hp
        exact hp
    · have hu : ¬ IntKind.i64.wrap (u.tdiv 4) = 1 := by simpa using hu
      rw [if_neg hu, if_neg hu] at hp
      exact hp
  · exact hp.elim
end Go.Proofs.YtijjonafmmhhbaaGreat.Ab
