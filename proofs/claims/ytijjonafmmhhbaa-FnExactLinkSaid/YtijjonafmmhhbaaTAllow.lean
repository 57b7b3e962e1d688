/- Allowed: what a region has and lets. No condition. -/
import Derived.Test.YtijjonafmmhhbaaTRegion
import Derived.Test.YtijjonafmmhhbaaTRead
namespace Go.Proofs.Ytijjonafmmhhbaa.Ab

structure Rg where
  b : Int
  l : Int
  o : Int
  r : Bool
  w : Bool
  x : Bool
def regC (r : Rg) : List AV := [.v (.int .i64 r.b), .v (.int .i64 r.l), .v (.int .i64 r.o), .v (.bool r.r), .v (.bool r.w), .v (.bool r.x)]
def Rg.ok (r : Rg) : Bool := regOk r.b r.l r.o
def partB (b l a : Int) : Int := (a - b) / (2 ^ l.toNat / 8)
def hasB (b l o a : Int) : Bool := decide (b ≤ a ∧ a < b + 2 ^ l.toNat ∧ (l < 8 ∨ o / 2 ^ (partB b l a).toNat % 2 = 0))
def letsB (r w x : Bool) (n : Int) : Bool := if n = 1 then r else if n = 2 then w else x
theorem regOk_spec {b l o : Int} (h : regOk b l o = true) : 5 ≤ l ∧ l ≤ 14 ∧ 0 ≤ o ∧ o ≤ 255 ∧ 0 ≤ b ∧ b ≤ 262144 - 2 ^ l.toNat := by
  simp only [regOk, decide_eq_true_eq] at h
  omega
/-- The eight parts of a region. -/
theorem part_spec {b l a : Int} (h1 : 5 ≤ l) (h2 : l ≤ 14) (h3 : b ≤ a) (h4 : a < b + 2 ^ l.toNat) : 0 ≤ partB b l a ∧ partB b l a ≤ 7 := by
  have hl : l = 5 ∨ l = 6 ∨ l = 7 ∨ l = 8 ∨ l = 9 ∨ l = 10 ∨ l = 11 ∨ l = 12 ∨ l = 13 ∨ l = 14 := by omega
  rcases hl with rfl | rfl | rfl | rfl | rfl | rfl | rfl | rfl | rfl | rfl <;> simp [partB] at * <;> omega
def hHas : CH := fun args hl K => match args, hl with
  | [.agg [.v (.int .i64 b), .v (.int .i64 l), .v (.int .i64 o), .v _, .v _, .v _], .v (.int .i64 a)], [] => regOk b l o = true ∧ I64 a ∧ K (.v (.bool (hasB b l o a))) []
  | _, _ => False
def hLets : CH := fun args hl K => match args, hl with
  | [.agg [.v (.int .i64 _), .v (.int .i64 _), .v (.int .i64 _), .v (.bool r), .v (.bool w), .v (.bool x)], .v (.int .i64 n)], [] => K (.v (.bool (letsB r w x n))) []
  | _, _ => False
def hParts : CH := fun args hl K => match args, hl with
  | [.agg [.v (.int .i64 _), .v (.int .i64 _), .v (.int .i64 o), .v _, .v _, .v _]], [] => 0 ≤ o ∧ o ≤ 255 ∧ K (.v (.int .u8 (255 - o))) []
  | _, _ => False
def hBit : CH := fun args hl K => match args, hl with
  | [.v (.int .u8 p), .v (.int .i64 i)], [] => 0 ≤ p ∧ p ≤ 255 ∧ 0 ≤ i ∧ i ≤ 7 ∧ K (.v (.bool (decide (p / 2 ^ i.toNat % 2 = 1)))) []
  | _, _ => False
theorem part_bit : ∀ (n : Fin 256) (k : Fin 8), ((255 - (n.1 : Int)) / 2 ^ k.1 % 2 = 1) ↔ ((n.1 : Int) / 2 ^ k.1 % 2 = 0) := by decide +kernel
/-! ### Regions in a list -/

def Rg.has (r : Rg) (a : Int) : Bool := hasB r.b r.l r.o a
def Rg.lets (r : Rg) (n : Int) : Bool := letsB r.r r.w r.x n
def oneB (rs : List Rg) (a n : Int) : Bool := rs.foldl (fun ok r => if r.has a then r.lets n else ok) false
theorem oneB_snoc (rs : List Rg) (r : Rg) (a n : Int) : oneB (rs ++ [r]) a n = if r.has a then r.lets n else oneB rs a n := by simp [oneB]
theorem oneB_take {rs : List Rg} {i : Nat} {r : Rg} (h : rs[i]? = some r) (a n : Int) : oneB (rs.take (i + 1)) a n = if r.has a then r.lets n else oneB (rs.take i) a n := by
  rw [List.take_add_one, h]
  exact oneB_snoc _ _ _ _
theorem get_map {α β : Type} {f : α → β} {l : List α} {i : Nat} {a : α} (h : l[i]? = some a) : (l.map f)[i]? = some (f a) := by simp [h]
def hOne : CH := fun args hl K => match args, hl with
  | [.imm _ _ 6 L, .v (.int .i64 a), .v (.int .i64 n)], [] => ∃ rs : List Rg, L = rs.map regC ∧ (∀ r ∈ rs, r.ok = true) ∧ rs.length ≤ 8 ∧ I64 a ∧ K (.v (.bool (oneB rs a n))) []
  | _, _ => False
def regsOk (rs : List Rg) : Bool := rs.all Rg.ok
def allowB (rs : List Rg) (a s n : Int) : Bool := decide (rs.length ≤ 8) && widthB s && decide (1 ≤ n ∧ n ≤ 3) && regsOk rs && (List.range s.toNat).all fun i => oneB rs (a + i) n
theorem regsOk_take {rs : List Rg} {i : Nat} {r : Rg} (h : rs[i]? = some r) : regsOk (rs.take (i + 1)) = (regsOk (rs.take i) && r.ok) := by
  rw [List.take_add_one, h]
  simp [regsOk]
theorem oneB_out {rs : List Rg} (hok : regsOk rs = true) {a n : Int} (ha : a < 0 ∨ 262144 ≤ a) : oneB rs a n = false := by
  have key : ∀ (l : List Rg), (∀ r ∈ l, r ∈ rs) → l.foldl (fun ok r => if r.has a then r.lets n else ok) false = false := by
    intro l
    induction l with
    | nil => intro _; rfl
    | cons r l ih =>
      intro h
      have h1 := List.all_eq_true.1 hok r (h r List.mem_cons_self)
      obtain ⟨l5, l14, o0, o1, b0, b1⟩ := regOk_spec h1
      have h2 : r.has a = false := by
        simp only [Rg.has, hasB, decide_eq_false_iff_not]
        omega
      simp only [List.foldl_cons, h2]
      exact ih fun q hq => h q (List.mem_cons_of_mem _ hq)
  exact key rs fun _ h => h
theorem regsOk_mem {rs : List Rg} (h : regsOk rs = true) : ∀ r ∈ rs, r.ok = true := List.all_eq_true.1 h
def hAllow : CH := fun args hl K => match args, hl with
  | [.imm _ _ 6 L, .v (.int .i64 a), .v (.int .i64 s), .v (.int .i64 n)], [] => ∃ rs : List Rg, L = rs.map regC ∧ I64 a ∧ rs.length ≤ 1048576 ∧ K (.v (.bool (allowB rs a s n))) []
  | _, _ => False
end Go.Proofs.Ytijjonafmmhhbaa.Ab
