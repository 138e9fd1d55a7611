/- What the functions of shape and of its reference give. -/
import Derived.Test.YtgkplkmjnpofkaaLtSeg2
set_option linter.unusedVariables false
set_option linter.unusedSimpArgs false
set_option maxRecDepth 100000
namespace Go.Proofs.Ytgkplkmjnpofkaa.Abs.Seg06
open Go Go.RowKit Go.Proofs Go.Proofs.Ytgkplkmjnpofkaa.Abs

theorem cst {at_ : Value → Heap → Prop} {v v2 : Value} {H H2 : Heap} (h : at_ v H) (e : v2 = v) (e2 : H2 = H) : at_ v2 H2 := by subst e; subst e2; exact h

theorem bn_out {s : ByteArray} {i : Nat} (h : s.size ≤ i) : bn s i = 0 := by
  unfold bn
  rw [dif_neg (by omega)]

theorem at_ok (s : ByteArray) (i : Nat) : Pure Try.prog 23 [.string s, .int .i64 (i : Nat)] (.int .u8 (bn s i : Nat)) := by
  refine f23.ok ?_
  by_cases h : s.size ≤ i
  · exact cst (f23.s1 (by simp; omega)) (by rw [bn_out h]; rfl) rfl
  · exact cst (f23.s2 (by simp; omega) (by omega)) (by rw [bt_nat]) rfl

/-- The longer one's length. -/
def lon (a b : ByteArray) : Nat := max a.size b.size
theorem gMax_nat (a b : Nat) : gMax (a : Int) (b : Int) = ((max a b : Nat) : Int) := by
  unfold gMax
  split <;> omega
def diff (a b : ByteArray) : Nat → Nat
  | 0 => 0
  | k + 1 => diff a b k ||| (bn a k ^^^ bn b k)
theorem diff_lt (a b : ByteArray) : ∀ k, diff a b k < 256
  | 0 => by simp [diff]
  | k + 1 => Nat.or_lt_two_pow (n := 8) (diff_lt a b k) (xor_lt8 (bn_lt a k) (bn_lt b k))
theorem xor_zero_iff {a b : Nat} : a ^^^ b = 0 ↔ a = b := by
  constructor
  · intro h
    have : a ^^^ b ^^^ b = b := by rw [h, Nat.zero_xor]
    rwa [Nat.xor_assoc, Nat.xor_self, Nat.xor_zero] at this
  · rintro rfl; exact Nat.xor_self _
theorem diff_zero (a b : ByteArray) : ∀ k, diff a b k = 0 ↔ ∀ i, i < k → bn a i = bn b i
  | 0 => by simp [diff]
  | k + 1 => by
    simp only [diff, Nat.or_eq_zero_iff, diff_zero a b k]
    constructor
    · rintro ⟨h1, h2⟩ i hi
      by_cases e : i = k
      · subst e; exact xor_zero_iff.1 h2
      · exact h1 i (by omega)
    · intro h
      exact ⟨fun i hi => h i (by omega), xor_zero_iff.2 (h k (by omega))⟩

theorem other_loop (a b : ByteArray) (m : Nat) (hm : m < 2 ^ 62) : ∀ (k i : Nat), i + k = m → f24.at1 a b (diff a b i : Nat) (i : Nat) (m : Nat) (i : Nat) (.tuple #[.int .u8 (diff a b m : Nat), .int .i64 (m : Nat)]) [] := by
  intro k
  induction k with
  | zero => intro i hi; obtain rfl : i = m := by omega
            exact f24.s3 (by simp)
  | succ k ih =>
    intro i hi
    have e1 : (i : Int) + 1 = ((i + 1 : Nat) : Int) := by simp
    refine f24.s2 (r1 := (bn a i : Nat)) (r2 := (bn b i : Nat)) (by simp; omega) (at_ok a i) (at_ok b i) (by omega) (by omega) ?_
    rw [e1, xor_u8 (bn_lt a i) (bn_lt b i), or_u8 (diff_lt a b i) (xor_lt8 (bn_lt a i) (bn_lt b i))]
    exact ih (i + 1) (by omega)
theorem other_ok (a b : ByteArray) (ha : a.size < 2 ^ 62) (hb : b.size < 2 ^ 62) : Pure Try.prog 24 [.string a, .string b] (.tuple #[.int .u8 (diff a b (lon a b) : Nat), .int .i64 (lon a b : Nat)]) := by
  refine f24.ok (f24.s1 ?_)
  rw [gMax_nat]
  exact other_loop a b (lon a b) (by unfold lon; omega) _ 0 (Nat.zero_add _)

theorem ext_bn {a b : ByteArray} (hs : a.size = b.size) (h : ∀ i, i < a.size → bn a i = bn b i) : a = b := by
  cases a with
  | mk x =>
    cases b with
    | mk y =>
      congr 1
      apply Array.ext
      · exact hs
      · intro i h1 h2
        have := h i h1
        unfold bn at this
        rw [dif_pos (show i < (ByteArray.mk x).size from h1), dif_pos (show i < (ByteArray.mk y).size from h2)] at this
        exact UInt8.toNat_inj.1 this

theorem equal_ok (a b : ByteArray) (ha : a.size < 2 ^ 62) (hb : b.size < 2 ^ 62) : Pure Try.prog 14 [.string a, .string b] (.tuple #[.bool (decide (a = b)), .int .i64 (lon a b : Nat)]) := by
  refine f14.ok ?_
  by_cases h : diff a b (lon a b) = 0
  · refine cst (f14.s1 (other_ok a b ha hb) (by simp [h])) ?_ rfl
    have hz := (diff_zero a b _).1 h
    have : decide (a = b) = decide (((a.size : Nat) : Int) = (b.size : Nat)) := by
      by_cases hs : a.size = b.size
      · have : a = b := ext_bn hs fun i hi => hz i (by unfold lon; omega)
        simp [this]
      · have : a ≠ b := fun e => hs (by rw [e])
        rw [decide_eq_false this, decide_eq_false (by omega)]
    rw [this]
  · refine cst (f14.s2 (other_ok a b ha hb) (by simpa using h)) ?_ rfl
    have : a ≠ b := fun e => h ((diff_zero a b _).2 fun i _ => by rw [e])
    simp [this]

theorem zero_ok (a : ByteArray) (ha : a.size < 2 ^ 62) : Pure Try.prog 15 [.string a] (.tuple #[.bool (decide (∀ i, i < a.size → bn a i = 0)), .int .i64 (a.size : Nat)]) := by
  have o := other_ok a ⟨#[]⟩ ha (by decide)
  have hl : lon a ⟨#[]⟩ = a.size := Nat.max_eq_left (Nat.zero_le _)
  have hb : ∀ i, bn ⟨#[]⟩ i = 0 := fun i => bn_out (Nat.zero_le _)
  refine f15.ok (cst (f15.s1 o) ?_ rfl)
  rw [hl]
  have := diff_zero a ⟨#[]⟩ a.size
  simp only [hb] at this
  by_cases h : diff a ⟨#[]⟩ a.size = 0
  · rw [decide_eq_true (this.1 h), decide_eq_true (by omega)]
  · have h2 : ¬ ∀ i, i < a.size → bn a i = 0 := fun e => h (this.2 e)
    have h3 : ¬ ((diff a ⟨#[]⟩ a.size : Nat) : Int) = 0 := by omega
    rw [decide_eq_false h2, decide_eq_false h3]
theorem longer_ok (a b : ByteArray) : Pure Try.prog 16 [.string a, .string b] (.int .i64 (lon a b : Nat)) := by
  refine f16.ok ?_
  by_cases h : b.size < a.size
  · exact cst (f16.s1 (by simp; omega)) (by unfold lon; rw [show max a.size b.size = a.size by omega]) rfl
  · exact cst (f16.s2 (by simp; omega)) (by unfold lon; rw [show max a.size b.size = b.size by omega]) rfl
theorem rzero_loop (a : ByteArray) (ha : a.size < 2 ^ 62) (fl : Bool) : ∀ (k i : Nat), i + k = a.size → (∀ j, j < i → bn a j = 0) → f18.at1 a fl (i : Nat) (.bool (decide (∀ i, i < a.size → bn a i = 0))) [] := by
  intro k
  induction k with
  | zero => intro i hi h; obtain rfl : i = a.size := by omega
            exact cst (f18.s3 (by simp)) (by rw [decide_eq_true h]) rfl
  | succ k ih =>
    intro i hi h
    have e1 : (i : Int) + 1 = ((i + 1 : Nat) : Int) := by simp
    by_cases hz : bn a i = 0
    · refine f18.s4 (by simp; omega) (by omega) (by rw [bt_nat, hz]; rfl) (by omega) ?_
      rw [e1]
      refine ih (i + 1) (by omega) fun j hj => ?_
      by_cases e : j = i
      · subst e; exact hz
      · exact h j (by omega)
    · refine cst (f18.s2 (by simp; omega) (by omega) (by rw [bt_nat]; simpa using hz)) ?_ rfl
      rw [decide_eq_false fun e => hz (e i (by omega))]
theorem rzero_ok (a : ByteArray) (ha : a.size < 2 ^ 62) : Pure Try.prog 18 [.string a] (.bool (decide (∀ i, i < a.size → bn a i = 0))) :=
  f18.ok (f18.s1 (rzero_loop a ha false a.size 0 (by omega) (fun j h => by omega)))
end Go.Proofs.Ytgkplkmjnpofkaa.Abs.Seg06

namespace Go.Proofs.Ytgkplkmjnpofkaa.Abs.Seg06
open Go Go.RowKit Go.Proofs Go.Proofs.Ytgkplkmjnpofkaa.Abs

def sgn (x : Int) : Int := if x < 0 then -1 else if 0 < x then 1 else 0
theorem sign_ok (x : Int) : Pure Try.prog 22 [.int .i64 x] (.int .i64 (sgn x)) := by
  refine f22.ok ?_
  unfold sgn
  by_cases h : x < 0
  · exact cst (f22.s1 (by simpa using h)) (by simp [h]) rfl
  · by_cases h2 : 0 < x
    · exact cst (f22.s2 (by simpa using h) (by simpa using h2)) (by simp [h, h2]) rfl
    · exact cst (f22.s3 (by simpa using h) (by simpa using h2)) (by simp [h, h2]) rfl

def cmpL : List Nat → List Nat → Int
  | [], [] => 0
  | [], _ :: _ => -1
  | _ :: _, [] => 1
  | x :: xs, y :: ys => if x < y then -1 else if y < x then 1 else cmpL xs ys
theorem cmpL_range : ∀ (x y : List Nat), cmpL x y = -1 ∨ cmpL x y = 0 ∨ cmpL x y = 1
  | [], [] => by simp [cmpL]
  | [], _ :: _ => by simp [cmpL]
  | _ :: _, [] => by simp [cmpL]
  | x :: xs, y :: ys => by
    unfold cmpL
    split
    · simp
    · split
      · simp
      · exact cmpL_range xs ys
theorem cmpL_neg : ∀ (x y : List Nat), cmpL x y = - cmpL y x
  | [], [] => by simp [cmpL]
  | [], _ :: _ => by simp [cmpL]
  | _ :: _, [] => by simp [cmpL]
  | x :: xs, y :: ys => by
    unfold cmpL
    by_cases h : x < y
    · have : ¬ y < x := by omega
      simp [h, this]
    · by_cases h2 : y < x
      · simp [h, h2]
      · simp only [if_neg h, if_neg h2]
        exact cmpL_neg xs ys
theorem cmpL_zero : ∀ (x y : List Nat), cmpL x y = 0 ↔ x = y
  | [], [] => by simp [cmpL]
  | [], _ :: _ => by simp [cmpL]
  | _ :: _, [] => by simp [cmpL]
  | x :: xs, y :: ys => by
    unfold cmpL
    by_cases h : x < y
    · simp [h]; omega
    · by_cases h2 : y < x
      · simp [h, h2]; omega
      · simp only [if_neg h, if_neg h2, cmpL_zero xs ys]
        have : x = y := by omega
        simp [this]
theorem cmpL_trans : ∀ (x y z : List Nat), cmpL x y ≤ 0 → cmpL y z ≤ 0 → cmpL x z ≤ 0
  | [], y, [], _, _ => by simp [cmpL]
  | [], y, _ :: _, _, _ => by simp [cmpL]
  | x :: xs, [], z, h1, h2 => by simp [cmpL] at h1
  | x :: xs, y :: ys, [], h1, h2 => by simp [cmpL] at h2
  | x :: xs, y :: ys, z :: zs, h1, h2 => by
    unfold cmpL at h1 h2 ⊢
    by_cases a : x < y
    · by_cases b : y < z
      · have : x < z := by omega
        simp [this]
      · by_cases b2 : z < y
        · simp [b, b2] at h2
        · have : x < z := by omega
          simp [this]
    · by_cases a2 : y < x
      · simp [a, a2] at h1
      · simp only [if_neg a, if_neg a2] at h1
        by_cases b : y < z
        · have : x < z := by omega
          simp [this]
        · by_cases b2 : z < y
          · simp [b, b2] at h2
          · simp only [if_neg b, if_neg b2] at h2
            have c : ¬ x < z := by omega
            have c2 : ¬ z < x := by omega
            simp only [if_neg c, if_neg c2]
            exact cmpL_trans xs ys zs h1 h2

def bl (a : ByteArray) : List Nat := (List.range a.size).map (bn a)
theorem bl_len (a : ByteArray) : (bl a).length = a.size := by simp [bl]
theorem bl_drop {a : ByteArray} {i : Nat} (h : i < a.size) : (bl a).drop i = bn a i :: (bl a).drop (i + 1) := by
  rw [List.drop_eq_getElem_cons (by rw [bl_len]; exact h)]
  congr 1
  simp [bl]
theorem bl_out {a : ByteArray} {i : Nat} (h : a.size ≤ i) : (bl a).drop i = [] := List.drop_eq_nil_of_le (by rw [bl_len]; exact h)
theorem bl_inj {a b : ByteArray} (h : bl a = bl b) : a = b := by
  have hs : a.size = b.size := by rw [← bl_len a, h, bl_len]
  refine ext_bn hs fun i hi => ?_
  have h1 := bl_drop hi
  have h2 := bl_drop (a := b) (i := i) (by omega)
  rw [h, h2] at h1
  exact (List.cons.inj h1).1.symm

/-- What stands behind a place tells; behind the shorter one's end the lengths. -/
def ordAt (a b : ByteArray) (i : Nat) : Int := if i < a.size ∧ i < b.size then cmpL ((bl a).drop i) ((bl b).drop i) else sgn ((a.size : Int) - b.size)
theorem ordAt_step {a b : ByteArray} {i : Nat} (ha : i < a.size) (hb : i < b.size) : ordAt a b i = if bn a i < bn b i then -1 else if bn b i < bn a i then 1 else ordAt a b (i + 1) := by
  have e : ordAt a b i = cmpL ((bl a).drop i) ((bl b).drop i) := by simp [ordAt, ha, hb]
  rw [e, bl_drop ha, bl_drop hb]
  unfold cmpL
  split
  · rfl
  · split
    · rfl
    · unfold ordAt
      split
      · rfl
      · rename_i h
        unfold sgn
        rcases Nat.lt_trichotomy a.size b.size with h1 | h1 | h1
        · rw [bl_out (a := a) (by omega), bl_drop (a := b) (by omega)]
          simp [cmpL]; omega
        · rw [bl_out (a := a) (by omega), bl_out (a := b) (by omega)]
          simp [cmpL]; omega
        · rw [bl_drop (a := a) (by omega), bl_out (a := b) (by omega)]
          simp only [cmpL]
          rw [if_neg (by omega), if_pos (by omega)]
theorem ordAt_zero (a b : ByteArray) : ordAt a b 0 = cmpL (bl a) (bl b) := by
  unfold ordAt
  split
  · rfl
  · rename_i h
    have e1 : bl a = (bl a).drop 0 := rfl
    have e2 : bl b = (bl b).drop 0 := rfl
    unfold sgn
    rcases Nat.eq_zero_or_pos a.size with ha | ha <;> rcases Nat.eq_zero_or_pos b.size with hb | hb
    · rw [e1, e2, bl_out (a := a) (by omega), bl_out (a := b) (by omega)]; simp [cmpL]; omega
    · rw [e1, e2, bl_out (a := a) (by omega), bl_drop (a := b) (by omega)]; simp [cmpL]; omega
    · rw [e1, e2, bl_drop (a := a) (by omega), bl_out (a := b) (by omega)]
      simp only [cmpL]
      rw [if_neg (by omega), if_pos (by omega)]
    · omega

theorem order_loop (a b : ByteArray) (n : Nat) (hn : n < 2 ^ 62) (h1 : a.size ≤ n) (h2 : b.size ≤ n) : ∀ (j k : Nat), j + k = n → f13.at1 a b (ordAt a b j) (k : Nat) (n : Nat) (n : Nat) (k : Nat) (.tuple #[.int .i64 (ordAt a b 0), .int .i64 (n : Nat)]) [] := by
  intro j
  induction j with
  | zero => intro k hk; obtain rfl : k = n := by omega
            exact f13.s3 (by simp)
  | succ j ih =>
    intro k hk
    have e1 : (k : Int) + 1 = ((k + 1 : Nat) : Int) := by simp
    have ei : ((n : Int) - 1) - (k : Int) = ((j : Nat) : Int) := by omega
    have ba := bn_lt a j
    have bb := bn_lt b j
    have ra : Pure Try.prog 23 [.string a, .int .i64 (((n : Int) - 1) - (k : Int))] (.int .u8 (bn a j : Nat)) := by rw [ei]; exact at_ok a j
    have rb : Pure Try.prog 23 [.string b, .int .i64 (((n : Int) - 1) - (k : Int))] (.int .u8 (bn b j : Nat)) := by rw [ei]; exact at_ok b j
    have next := ih (k + 1) (by omega)
    by_cases ca : j < a.size
    · by_cases cb : j < b.size
      · by_cases hd : bn a j = bn b j
        · refine f13.s6 (by simp; omega) (by omega) (by omega) ra (by omega) rb (by omega) (by omega) (by rw [ei]; simp; omega) (by rw [ei]; simp; omega) (by simp [hd]) (by omega) (by omega) ?_
          rw [e1]
          rw [ordAt_step ca cb, if_neg (by omega), if_neg (by omega)] at next
          exact next
        · refine f13.s2 (by simp; omega) (by omega) (by omega) ra (by omega) rb (by omega) (by omega) (by rw [ei]; simp; omega) (by rw [ei]; simp; omega) (by simp; omega) (sign_ok _) (by omega) (by omega) ?_
          rw [e1]
          rw [ordAt_step ca cb] at next
          have e : sgn (((bn a j : Nat) : Int) - (bn b j : Nat)) = if bn a j < bn b j then -1 else if bn b j < bn a j then 1 else ordAt a b (j + 1) := by
            unfold sgn
            split <;> split <;> simp_all <;> omega
          rw [e]
          exact next
      · refine f13.s5 (by simp; omega) (by omega) (by omega) ra (by omega) rb (by omega) (by omega) (by rw [ei]; simp; omega) (by rw [ei]; simp; omega) (by omega) (by omega) ?_
        rw [e1]
        have e : ordAt a b (j + 1) = ordAt a b j := by unfold ordAt; rw [if_neg (by omega), if_neg (by omega)]
        rw [e]; exact next
    · refine f13.s4 (by simp; omega) (by omega) (by omega) ra (by omega) rb (by omega) (by omega) (by rw [ei]; simp; omega) (by omega) (by omega) ?_
      rw [e1]
      have e : ordAt a b (j + 1) = ordAt a b j := by unfold ordAt; rw [if_neg (by omega), if_neg (by omega)]
      rw [e]; exact next
theorem order_ok (a b : ByteArray) (ha : a.size < 2 ^ 62) (hb : b.size < 2 ^ 62) : Pure Try.prog 13 [.string a, .string b] (.tuple #[.int .i64 (cmpL (bl a) (bl b)), .int .i64 (lon a b : Nat)]) := by
  refine f13.ok (f13.s1 (by omega) (sign_ok _) ?_)
  rw [gMax_nat, ← ordAt_zero]
  have := order_loop a b (lon a b) (by unfold lon; omega) (by unfold lon; omega) (by unfold lon; omega) (lon a b) 0 (by omega)
  have e : ordAt a b (lon a b) = sgn ((a.size : Int) - b.size) := by unfold ordAt; rw [if_neg (by unfold lon; omega)]
  rw [e] at this
  exact this

theorem rorder_loop (a b : ByteArray) (ha : a.size < 2 ^ 62) : ∀ (k i : Nat), i + k = a.size → f17.at1 a b (i : Nat) (.int .i64 (ordAt a b i)) [] := by
  have hend : ∀ i : Nat, ¬ (i < a.size ∧ i < b.size) → f17.at1 a b (i : Nat) (.int .i64 (ordAt a b i)) [] := by
    intro i h
    have e : ordAt a b i = sgn ((a.size : Int) - b.size) := by unfold ordAt; rw [if_neg h]
    rw [e]
    unfold sgn
    by_cases ca : i < a.size
    · rcases Nat.lt_trichotomy a.size b.size with q | q | q
      · exact cst (f17.s4 (by simp; omega) (by simp; omega) (by simp; omega)) (by rw [if_pos (by omega)]) rfl
      · exact cst (f17.s10 (by simp; omega) (by simp; omega) (by simp; omega) (by simp; omega)) (by rw [if_neg (by omega), if_neg (by omega)]) rfl
      · exact cst (f17.s7 (by simp; omega) (by simp; omega) (by simp; omega) (by simp; omega)) (by rw [if_neg (by omega), if_pos (by omega)]) rfl
    · rcases Nat.lt_trichotomy a.size b.size with q | q | q
      · exact cst (f17.s3 (by simp; omega) (by simp; omega)) (by rw [if_pos (by omega)]) rfl
      · exact cst (f17.s9 (by simp; omega) (by simp; omega) (by simp; omega)) (by rw [if_neg (by omega), if_neg (by omega)]) rfl
      · exact cst (f17.s6 (by simp; omega) (by simp; omega) (by simp; omega)) (by rw [if_neg (by omega), if_pos (by omega)]) rfl
  intro k
  induction k with
  | zero => intro i hi; exact hend i (by omega)
  | succ k ih =>
    intro i hi
    by_cases cb : i < b.size
    · have ca : i < a.size := by omega
      have e1 : (i : Int) + 1 = ((i + 1 : Nat) : Int) := by simp
      rw [ordAt_step ca cb]
      by_cases h1 : bn a i < bn b i
      · exact cst (f17.s2 (by simp; omega) (by simp; omega) (by omega) (by omega) (by rw [bt_nat, bt_nat]; simp; omega)) (by rw [if_pos h1]) rfl
      · by_cases h2 : bn b i < bn a i
        · exact cst (f17.s5 (by simp; omega) (by simp; omega) (by omega) (by omega) (by rw [bt_nat, bt_nat]; simp; omega) (by rw [bt_nat, bt_nat]; simp; omega)) (by rw [if_neg h1, if_pos h2]) rfl
        · refine f17.s8 (by simp; omega) (by simp; omega) (by omega) (by omega) (by rw [bt_nat, bt_nat]; simp; omega) (by rw [bt_nat, bt_nat]; simp; omega) (by omega) ?_
          rw [e1, if_neg h1, if_neg h2]
          exact ih (i + 1) (by omega)
    · exact hend i (by omega)
theorem rorder_ok (a b : ByteArray) (ha : a.size < 2 ^ 62) : Pure Try.prog 17 [.string a, .string b] (.int .i64 (cmpL (bl a) (bl b))) := by
  rw [← ordAt_zero]
  exact f17.ok (f17.s1 (rorder_loop a b ha a.size 0 (by omega)))
end Go.Proofs.Ytgkplkmjnpofkaa.Abs.Seg06

namespace Go.Proofs.Ytgkplkmjnpofkaa.Abs.Seg06
open Go Go.RowKit Go.Proofs Go.Proofs.Ytgkplkmjnpofkaa.Abs

def findAt : List ByteArray → ByteArray → Nat → Int
  | [], _, _ => -1
  | x :: r, s, j => if x = s then (j : Int) else findAt r s (j + 1)
def stepsL : List ByteArray → ByteArray → Nat
  | [], _ => 0
  | x :: r, s => lon x s + stepsL r s
theorem stepsL_drop : ∀ (l : List ByteArray) (s : ByteArray) (j : Nat), stepsL (l.drop j) s ≤ stepsL l s
  | [], s, j => by simp
  | x :: r, s, 0 => Nat.le_refl _
  | x :: r, s, j + 1 => by have := stepsL_drop r s j; simp only [List.drop_succ_cons, stepsL]; omega
theorem f10_loop (ts : List ByteArray) (s : ByteArray) (hs : s.size < 2 ^ 61) (hb : stepsL ts s < 2 ^ 61) (hl : ts.length < 2 ^ 61) (ht : ∀ x ∈ ts, x.size < 2 ^ 61) : ∀ (j k : Nat), j + k = ts.length →
    f10.at1 ts ts.length s (findAt (ts.drop j) s j) ((stepsL (ts.drop j) s : Nat) : Int) (ts.length : Nat) (k : Nat) (.tuple #[.int .i64 (findAt ts s 0), .int .i64 (stepsL ts s : Nat)]) [some ⟨false, 9, .strs ts⟩] := by
  intro j
  induction j with
  | zero => intro k hk; obtain rfl : k = ts.length := by omega
            exact f10.s3 (by simp)
  | succ j ih =>
    intro k hk
    have e1 : (k : Int) + 1 = ((k + 1 : Nat) : Int) := by simp
    have hj : j < ts.length := by omega
    have ei : (((ts.length : Nat) : Int) - 1) - (k : Int) = ((j : Nat) : Int) := by omega
    have hd : ts.drop j = ts[j] :: ts.drop (j + 1) := List.drop_eq_getElem_cons hj
    have hle : stepsL (ts.drop j) s ≤ stepsL ts s := stepsL_drop ts s j
    have hst : stepsL (ts.drop j) s = lon ts[j] s + stepsL (ts.drop (j + 1)) s := by rw [hd]; rfl
    have hget : List.getD ts (0 + (Int.toNat ((((ts.length : Nat) : Int) - 1) - (k : Int))) * 1) ByteArray.empty = ts[j] := by
      rw [ei]; simp [List.getD_eq_getElem?_getD, hj]
    have hsz := ht _ (List.getElem_mem hj)
    have eq := equal_ok ts[j] s (by omega) (by omega)
    have next := ih (k + 1) (by omega)
    have ea : ((stepsL (ts.drop (j + 1)) s : Nat) : Int) + (lon ts[j] s : Nat) = (stepsL (ts.drop j) s : Nat) := by rw [hst]; omega
    by_cases he : ts[j] = s
    · refine f10.s2 (r2 := (lon ts[j] s : Nat)) (p1 := true) (by simp; omega) (by omega) (by omega) (by omega) (by rw [ei]; simp; exact hj) (by rw [hget]; simpa [he] using eq) (by omega) rfl (by omega) ?_
      rw [ea, e1, ei]
      rw [hd] at next
      simp only [findAt, if_pos he] at next
      rw [← hd] at next
      exact next
    · refine f10.s4 (r2 := (lon ts[j] s : Nat)) (p1 := false) (by simp; omega) (by omega) (by omega) (by omega) (by rw [ei]; simp; exact hj) (by rw [hget]; simpa [he] using eq) (by omega) rfl (by omega) ?_
      rw [ea, e1]
      have : findAt (ts.drop j) s j = findAt (ts.drop (j + 1)) s (j + 1) := by rw [hd]; simp [findAt, he]
      rw [this] at next
      exact next
theorem f10_ok (ts : List ByteArray) (s : ByteArray) (hs : s.size < 2 ^ 61) (hb : stepsL ts s < 2 ^ 61) (hl : ts.length < 2 ^ 61) (ht : ∀ x ∈ ts, x.size < 2 ^ 61) :
    FnOk Try.prog 10 [.slice (some ⟨0, 0, none⟩) ts.length 0, .string s] [some ⟨false, 9, .strs ts⟩] (.tuple #[.int .i64 (findAt ts s 0), .int .i64 (stepsL ts s : Nat)]) [some ⟨false, 9, .strs ts⟩] := by
  refine f10.ok (f10.s1 ?_)
  have := f10_loop ts s hs hb hl ht ts.length 0 (by omega)
  rw [List.drop_length] at this
  exact this
theorem f10t_loop (ts : List ByteArray) (s : ByteArray) (hs : s.size < 2 ^ 61) (hb : stepsL ts s < 2 ^ 61) (hl : ts.length < 2 ^ 61) (ht : ∀ x ∈ ts, x.size < 2 ^ 61) : ∀ (j k : Nat), j + k = ts.length →
    f10t.at1 ts ts.length s (findAt (ts.drop j) s j) ((stepsL (ts.drop j) s : Nat) : Int) (ts.length : Nat) (k : Nat) (.tuple #[.int .i64 (findAt ts s 0), .int .i64 (stepsL ts s : Nat)]) [some ⟨true, 9, .strs ts⟩] := by
  intro j
  induction j with
  | zero => intro k hk; obtain rfl : k = ts.length := by omega
            exact f10t.s3 (by simp)
  | succ j ih =>
    intro k hk
    have e1 : (k : Int) + 1 = ((k + 1 : Nat) : Int) := by simp
    have hj : j < ts.length := by omega
    have ei : (((ts.length : Nat) : Int) - 1) - (k : Int) = ((j : Nat) : Int) := by omega
    have hd : ts.drop j = ts[j] :: ts.drop (j + 1) := List.drop_eq_getElem_cons hj
    have hle : stepsL (ts.drop j) s ≤ stepsL ts s := stepsL_drop ts s j
    have hst : stepsL (ts.drop j) s = lon ts[j] s + stepsL (ts.drop (j + 1)) s := by rw [hd]; rfl
    have hget : List.getD ts (0 + (Int.toNat ((((ts.length : Nat) : Int) - 1) - (k : Int))) * 1) ByteArray.empty = ts[j] := by
      rw [ei]; simp [List.getD_eq_getElem?_getD, hj]
    have hsz := ht _ (List.getElem_mem hj)
    have eq := equal_ok ts[j] s (by omega) (by omega)
    have next := ih (k + 1) (by omega)
    have ea : ((stepsL (ts.drop (j + 1)) s : Nat) : Int) + (lon ts[j] s : Nat) = (stepsL (ts.drop j) s : Nat) := by rw [hst]; omega
    by_cases he : ts[j] = s
    · refine f10t.s2 (r2 := (lon ts[j] s : Nat)) (p1 := true) (by simp; omega) (by omega) (by omega) (by omega) (by rw [ei]; simp; exact hj) (by rw [hget]; simpa [he] using eq) (by omega) rfl (by omega) ?_
      rw [ea, e1, ei]
      rw [hd] at next
      simp only [findAt, if_pos he] at next
      rw [← hd] at next
      exact next
    · refine f10t.s4 (r2 := (lon ts[j] s : Nat)) (p1 := false) (by simp; omega) (by omega) (by omega) (by omega) (by rw [ei]; simp; exact hj) (by rw [hget]; simpa [he] using eq) (by omega) rfl (by omega) ?_
      rw [ea, e1]
      have : findAt (ts.drop j) s j = findAt (ts.drop (j + 1)) s (j + 1) := by rw [hd]; simp [findAt, he]
      rw [this] at next
      exact next
theorem f10t_ok (ts : List ByteArray) (s : ByteArray) (hs : s.size < 2 ^ 61) (hb : stepsL ts s < 2 ^ 61) (hl : ts.length < 2 ^ 61) (ht : ∀ x ∈ ts, x.size < 2 ^ 61) :
    FnOk Try.prog 10 [.slice (some ⟨0, 0, none⟩) ts.length 0, .string s] [some ⟨true, 9, .strs ts⟩] (.tuple #[.int .i64 (findAt ts s 0), .int .i64 (stepsL ts s : Nat)]) [some ⟨true, 9, .strs ts⟩] := by
  refine f10t.ok (f10t.s1 ?_)
  have := f10t_loop ts s hs hb hl ht ts.length 0 (by omega)
  rw [List.drop_length] at this
  exact this
theorem mask_ok (b : Bool) : Pure Try.prog 21 [.bool b] (.int .u8 ((if b then 255 else 0 : Nat) : Int)) := by
  refine f21.ok ?_
  cases b
  · exact f21.s2 rfl
  · exact f21.s1 rfl
theorem awake_ok : Pure Try.prog 9 [] (.bool true) := by
  have e1 := equal_ok ⟨#[97, 98]⟩ ⟨#[97, 98, 99]⟩ (by decide) (by decide)
  have e2 := order_ok ⟨#[97, 98]⟩ ⟨#[97, 98, 99]⟩ (by decide) (by decide)
  have e3 := f10_ok [⟨#[97]⟩, ⟨#[98]⟩, ⟨#[97]⟩] ⟨#[97]⟩ (by decide) (by decide) (by decide) (by intro x hx; simp at hx; rcases hx with rfl | rfl | rfl <;> decide)
  have e4 := equal_ok ⟨#[120, 121]⟩ ⟨#[120, 121]⟩ (by decide) (by decide)
  have m1 := mask_ok true
  have m0 := mask_ok false
  exact f9.ok (f9.s1 e1 e2 e3 e4 (by decide) (by decide) (by decide) (by decide +kernel) (by decide +kernel) (by decide +kernel) m1 (by decide) m0)
end Go.Proofs.Ytgkplkmjnpofkaa.Abs.Seg06

namespace Go.Proofs.Ytgkplkmjnpofkaa.Abs.Seg06
open Go Go.RowKit Go.Proofs Go.Proofs.Ytgkplkmjnpofkaa.Abs

def msk (f : Bool) : Nat := if f then 255 else 0
theorem pick_bits : ∀ f : Bool, ∀ x, x < 256 → Go.bits .and .u8 (x : Nat) (msk f : Nat) = ((if f then x else 0 : Nat) : Int) ∧ Go.bits .andNot .u8 (x : Nat) (msk f : Nat) = ((if f then 0 else x : Nat) : Int) := by decide +kernel
def sel (f : Bool) (a b : ByteArray) : ByteArray := if f then a else b
theorem pick_one (f : Bool) (a b : ByteArray) (i : Nat) : Go.bits .or .u8 (Go.bits .and .u8 (bn a i : Nat) (msk f : Nat)) (Go.bits .andNot .u8 (bn b i : Nat) (msk f : Nat)) = ((bn (sel f a b) i : Nat) : Int) := by
  rw [(pick_bits f _ (bn_lt a i)).1, (pick_bits f _ (bn_lt b i)).2]
  cases f
  · simp only [sel, Bool.false_eq_true, if_false]
    rw [or_u8 (by decide) (bn_lt b i), Nat.zero_or]
  · simp only [sel, if_true]
    rw [or_u8 (bn_lt a i) (by decide), Nat.or_zero]
def pk (s : ByteArray) (n i : Nat) : List Int := ((List.range i).map fun j => ((bn s j : Nat) : Int)) ++ List.replicate (n - i) 0
theorem pk_len {s : ByteArray} {n i : Nat} (h : i ≤ n) : (pk s n i).length = n := by simp [pk]; omega
theorem pk_set {s : ByteArray} {n i : Nat} (h : i < n) : (pk s n i).set i ((bn s i : Nat) : Int) = pk s n (i + 1) := by
  unfold pk
  rw [List.set_append_right _ _ (by simp)]
  have : n - i = (n - (i + 1)) + 1 := by omega
  rw [this, List.replicate_succ, List.range_succ]
  simp
theorem pk_txt (s : ByteArray) (n : Nat) (h : s.size ≤ n) : ofInts (List.take s.size (pk s n n)) = s := by
  have e : List.take s.size (pk s n n) = (bl s).map fun (n : Nat) => (n : Int) := by
    unfold pk bl
    rw [Nat.sub_self]
    simp only [List.replicate_zero, List.append_nil]
    rw [← List.map_take, List.take_range, Nat.min_eq_left h, List.map_map]
    rfl
  rw [e, ofInts_nat]
  refine ext_bn (by rw [txt_size, bl_len]) fun i hi => ?_
  rw [txt_size, bl_len] at hi
  rw [bn_txt (by intro x hx; simp only [bl, List.mem_map] at hx; obtain ⟨j, _, rfl⟩ := hx; exact bn_lt s j) (by rw [bl_len]; exact hi)]
  simp [bl]

theorem pick_loop (f : Bool) (a b : ByteArray) (n : Nat) (hn : n < 2 ^ 46) (ha : a.size ≤ n) (hb : b.size ≤ n) (u : ByteArray) : ∀ (k i : Nat), i + k = n →
    f19.at1 f a b u (i : Nat) (msk f : Nat) n (n : Nat) (i : Nat) (pk (sel f a b) n i) (.tuple #[.string (sel f a b), .int .i64 (n : Nat)]) [] := by
  intro k
  induction k with
  | zero =>
    intro i hi
    obtain rfl : i = n := by omega
    cases f
    · refine cst (f19.s4 (by simp) rfl ⟨by omega, by omega, by omega⟩ (by rw [pk_len (Nat.le_refl _)]; omega)) ?_ rfl
      have e : Int.toNat ((b.size : Int) - 0) = b.size := by omega
      rw [e, List.drop_zero]
      have := pk_txt b i hb
      simp only [sel, Bool.false_eq_true, if_false] at this ⊢
      rw [this]
    · refine cst (f19.s3 (by simp) rfl ⟨by omega, by omega, by omega⟩ (by rw [pk_len (Nat.le_refl _)]; omega)) ?_ rfl
      have e : Int.toNat ((a.size : Int) - 0) = a.size := by omega
      rw [e, List.drop_zero]
      have := pk_txt a i ha
      simp only [sel, if_true] at this ⊢
      rw [this]
  | succ k ih =>
    intro i hi
    have e1 : (i : Int) + 1 = ((i + 1 : Nat) : Int) := by simp
    have e2 : 0 + Int.toNat (i : Int) * 1 = i := by simp
    refine f19.s2 (r1 := (bn a i : Nat)) (r2 := (bn b i : Nat)) (by simp; omega) (at_ok a i) (at_ok b i) (by omega) (by rw [e2, pk_len (by omega)]; omega) (by omega) (by omega) ?_
    rw [e1, e2, pick_one, pk_set (by omega)]
    exact ih (i + 1) (by omega)
theorem pick_ok (f : Bool) (a b : ByteArray) (ha : a.size < 2 ^ 46) (hb : b.size < 2 ^ 46) : Pure Try.prog 19 [.bool f, .string a, .string b] (.tuple #[.string (sel f a b), .int .i64 (lon a b : Nat)]) := by
  have hm : Pure Try.prog 21 [.bool f] (.int .u8 (msk f : Nat)) := mask_ok f
  have hl : lon a b < 2 ^ 46 := by unfold lon; omega
  refine f19.ok (f19.s1 hm ?_ ?_)
  · rw [gMax_nat]
    have : max a.size b.size < 2 ^ 46 := hl
    omega
  · rw [gMax_nat]
    have := pick_loop f a b (lon a b) hl (by unfold lon; omega) (by unfold lon; omega) ⟨#[]⟩ (lon a b) 0 (by omega)
    simpa [pk, lon] using this
theorem picks_row (f : Bool) (a : ByteArray) (w1 : a.size ≤ 140737488351232) (b : ByteArray) (w2 : b.size ≤ 140737488351232) : Pure Try.prog 6 [.bool f, .string a, .string b] (.bool true) := by
  refine f6.ok ?_
  by_cases h1 : 2000 < a.size
  · exact f6.s1 (by simp; omega) awake_ok
  by_cases h2 : 2000 < b.size
  · exact f6.s2 (by simp; omega) (by simp; omega) awake_ok
  have p := pick_ok f a b (by omega) (by omega)
  cases f
  · exact cst (f6.s4 (by simp; omega) (by simp; omega) p rfl awake_ok rfl (by simp [sel]) (longer_ok a b)) (by simp) rfl
  · exact cst (f6.s3 (by simp; omega) (by simp; omega) p rfl awake_ok rfl (by simp [sel]) (longer_ok a b)) (by simp) rfl
end Go.Proofs.Ytgkplkmjnpofkaa.Abs.Seg06

namespace Go.Proofs.Ytgkplkmjnpofkaa.Abs.Seg06
open Go Go.RowKit Go.Proofs Go.Proofs.Ytgkplkmjnpofkaa.Abs

theorem getD_at {ts : List ByteArray} {i : Nat} (h : i < ts.length) : List.getD ts (0 + (Int.toNat (i : Int)) * 1) ByteArray.empty = ts[i] := by
  simp [List.getD_eq_getElem?_getD, h]
def fewL (ts : List ByteArray) (n m : Nat) : Bool := decide (ts.length ≤ n) && ts.all fun x => decide (x.size ≤ m)
theorem few_loop (ts : List ByteArray) (hl : ts.length ≤ 9223372036854775807) (n m : Nat) (hn : ts.length ≤ n) (fl : Bool) : ∀ (k i : Nat), i + k = ts.length → (∀ j (h : j < ts.length), j < i → ts[j].size ≤ m) →
    f8.at1 ts ts.length (n : Nat) (m : Nat) fl (i : Nat) (.bool (fewL ts n m)) [some ⟨false, 9, .strs ts⟩] := by
  intro k
  induction k with
  | zero =>
    intro i hi h
    obtain rfl : i = ts.length := by omega
    refine cst (f8.s4 (by simp)) ?_ rfl
    have : fewL ts n m = true := by
      simp only [fewL, hn, decide_true, Bool.true_and, List.all_eq_true, decide_eq_true_eq]
      intro x hx
      obtain ⟨j, hj, rfl⟩ := List.getElem_of_mem hx
      exact h j hj hj
    rw [this]
  | succ k ih =>
    intro i hi h
    have hi2 : i < ts.length := by omega
    have e1 : (i : Int) + 1 = ((i + 1 : Nat) : Int) := by simp
    by_cases hb : m < ts[i].size
    · refine cst (f8.s3 (by simp; omega) (by omega) (by simp; exact hi2) (by rw [getD_at hi2]; simp; omega)) ?_ rfl
      have : fewL ts n m = false := by
        simp only [fewL, hn, decide_true, Bool.true_and]
        refine Bool.eq_false_iff.2 fun hc => ?_
        rw [List.all_eq_true] at hc
        have := hc ts[i] (List.getElem_mem hi2)
        simp at this
        omega
      rw [this]
    · refine f8.s5 (by simp; omega) (by omega) (by simp; exact hi2) (by rw [getD_at hi2]; simp; omega) (by omega) ?_
      rw [e1]
      refine ih (i + 1) (by omega) fun j hj hji => ?_
      by_cases e : j = i
      · subst e; omega
      · exact h j hj (by omega)
theorem few_ok (ts : List ByteArray) (hl : ts.length ≤ 9223372036854775807) (n m : Nat) : FnOk Try.prog 8 [.slice (some ⟨0, 0, none⟩) ts.length 0, .int .i64 (n : Nat), .int .i64 (m : Nat)] [some ⟨false, 9, .strs ts⟩] (.bool (fewL ts n m)) [some ⟨false, 9, .strs ts⟩] := by
  refine f8.ok ?_
  by_cases h : ts.length ≤ n
  · exact f8.s2 (by simp; omega) (few_loop ts hl n m h false ts.length 0 (by omega) (fun j _ h => by omega))
  · refine cst (f8.s1 (by simp; omega)) ?_ rfl
    simp [fewL, h]

theorem rfind_loop (ts : List ByteArray) (s : ByteArray) (hl : ts.length < 2 ^ 61) : ∀ (k i : Nat), i + k = ts.length → f11.at1 ts ts.length s (i : Nat) (.int .i64 (findAt (ts.drop i) s i)) [some ⟨false, 9, .strs ts⟩] := by
  intro k
  induction k with
  | zero =>
    intro i hi
    obtain rfl : i = ts.length := by omega
    exact cst (f11.s3 (by simp)) (by rw [List.drop_length]; rfl) rfl
  | succ k ih =>
    intro i hi
    have hi2 : i < ts.length := by omega
    have e1 : (i : Int) + 1 = ((i + 1 : Nat) : Int) := by simp
    have hd : ts.drop i = ts[i] :: ts.drop (i + 1) := List.drop_eq_getElem_cons hi2
    by_cases he : ts[i] = s
    · refine cst (f11.s2 (by simp; omega) (by omega) (by simp; exact hi2) (by rw [getD_at hi2]; simp [he])) ?_ rfl
      rw [hd]; simp [findAt, he]
    · refine f11.s4 (by simp; omega) (by omega) (by simp; exact hi2) (by rw [getD_at hi2]; simp [he]) (by omega) ?_
      rw [e1]
      refine cst (ih (i + 1) (by omega)) ?_ rfl
      rw [hd]; simp [findAt, he]
theorem rfind_ok (ts : List ByteArray) (s : ByteArray) (hl : ts.length < 2 ^ 61) : FnOk Try.prog 11 [.slice (some ⟨0, 0, none⟩) ts.length 0, .string s] [some ⟨false, 9, .strs ts⟩] (.int .i64 (findAt ts s 0)) [some ⟨false, 9, .strs ts⟩] :=
  f11.ok (f11.s1 (rfind_loop ts s hl ts.length 0 (by omega)))

theorem stepsL_take (ts : List ByteArray) (s : ByteArray) {i : Nat} (h : i < ts.length) : stepsL (ts.take (i + 1)) s = stepsL (ts.take i) s + lon ts[i] s := by
  induction ts generalizing i with
  | nil => simp at h
  | cons x r ih =>
    cases i with
    | zero => simp [stepsL]
    | succ i =>
      simp only [List.take_succ_cons, stepsL, List.getElem_cons_succ]
      rw [ih (by simpa using h)]
      omega
theorem stepsL_take_le (ts : List ByteArray) (s : ByteArray) : ∀ i, stepsL (ts.take i) s ≤ stepsL ts s := by
  induction ts with
  | nil => simp
  | cons x r ih =>
    intro i
    cases i with
    | zero => simp [stepsL]
    | succ i => simp only [List.take_succ_cons, stepsL]; have := ih i; omega
theorem rsteps_loop (ts : List ByteArray) (s : ByteArray) (hl : ts.length < 2 ^ 61) (hb : stepsL ts s < 2 ^ 61) : ∀ (k i : Nat), i + k = ts.length → f12.at1 ts ts.length s (stepsL (ts.take i) s : Nat) (i : Nat) (.int .i64 (stepsL ts s : Nat)) [some ⟨false, 9, .strs ts⟩] := by
  intro k
  induction k with
  | zero =>
    intro i hi
    obtain rfl : i = ts.length := by omega
    exact cst (f12.s3 (by simp)) (by rw [List.take_length]) rfl
  | succ k ih =>
    intro i hi
    have hi2 : i < ts.length := by omega
    have e1 : (i : Int) + 1 = ((i + 1 : Nat) : Int) := by simp
    have h1 := stepsL_take ts s hi2
    have h2 := stepsL_take_le ts s (i + 1)
    refine f12.s2 (r1 := (lon ts[i] s : Nat)) (by simp; omega) (by omega) (by simp; exact hi2) (by rw [getD_at hi2]; exact longer_ok _ _) (by omega) (by omega) ?_
    have e2 : ((stepsL (ts.take i) s : Nat) : Int) + (lon ts[i] s : Nat) = (stepsL (ts.take (i + 1)) s : Nat) := by omega
    rw [e1, e2]
    exact ih (i + 1) (by omega)
theorem rsteps_ok (ts : List ByteArray) (s : ByteArray) (hl : ts.length < 2 ^ 61) (hb : stepsL ts s < 2 ^ 61) : FnOk Try.prog 12 [.slice (some ⟨0, 0, none⟩) ts.length 0, .string s] [some ⟨false, 9, .strs ts⟩] (.int .i64 (stepsL ts s : Nat)) [some ⟨false, 9, .strs ts⟩] :=
  f12.ok (f12.s1 (rsteps_loop ts s hl hb ts.length 0 (by omega)))

theorem stepsL_bd (s : ByteArray) (m : Nat) (hs : s.size ≤ m) : ∀ (ts : List ByteArray), (∀ x ∈ ts, x.size ≤ m) → stepsL ts s ≤ ts.length * m
  | [], _ => by simp [stepsL]
  | x :: r, h => by
    have h1 := stepsL_bd s m hs r fun y hy => h y (by simp [hy])
    have h2 := h x (by simp)
    have : lon x s ≤ m := by unfold lon; omega
    simp only [stepsL, List.length_cons, Nat.add_mul, Nat.one_mul]
    omega

theorem finds_ok (ts : List ByteArray) (hl0 : ts.length ≤ 9223372036854775807) (s : ByteArray) : FnOk Try.prog 3 [.slice (some ⟨0, 0, none⟩) ts.length 0, .string s] [some ⟨false, 9, .strs ts⟩] (.bool true) [some ⟨false, 9, .strs ts⟩] := by
  have fw := few_ok ts hl0 30 200
  refine f3.ok ?_
  by_cases hf : fewL ts 30 200 = true
  · by_cases hs : 200 < s.size
    · exact f3.s2 fw (by rw [hf]; rfl) (by simp; omega) awake_ok
    · have hall : ∀ x ∈ ts, x.size ≤ 200 := by
        simp only [fewL, Bool.and_eq_true, List.all_eq_true, decide_eq_true_eq] at hf
        exact hf.2
      have hn : ts.length ≤ 30 := by
        simp only [fewL, Bool.and_eq_true, decide_eq_true_eq] at hf
        exact hf.1
      have hl : ts.length < 2 ^ 61 := by omega
      have hb := stepsL_bd s 200 (by omega) ts hall
      have hb2 : stepsL ts s < 2 ^ 61 := by
        have : ts.length * 200 ≤ 30 * 200 := Nat.mul_le_mul_right _ hn
        omega
      have fd := f10_ok ts s (by omega) hb2 hl fun x hx => by have := hall x hx; omega
      exact cst (f3.s3 fw (by rw [hf]; rfl) (by simp; omega) fd awake_ok rfl (rfind_ok ts s hl) (by simp) (rsteps_ok ts s hl hb2)) (by simp) rfl
  · exact f3.s1 fw (by simpa using hf) awake_ok
end Go.Proofs.Ytgkplkmjnpofkaa.Abs.Seg06
namespace Go.Proofs.Ytgkplkmjnpofkaa.Abs.Seg06
open Go Go.RowKit Go.Proofs Go.Proofs.Ytgkplkmjnpofkaa.Abs
theorem finds_row (ts : List ByteArray) (hl : ts.length ≤ 9223372036854775807) (s : ByteArray) (w1 : s.size ≤ 140737488351232) : FnOk Try.prog 3 [.slice (some ⟨0, 0, none⟩) (Row.len (.strs ts)) 0, .string s] [some ⟨false, 9, .strs ts⟩] (.bool true) [some ⟨false, 9, .strs ts⟩] := finds_ok ts hl s
end Go.Proofs.Ytgkplkmjnpofkaa.Abs.Seg06

namespace Go.Proofs.Ytgkplkmjnpofkaa.Abs.Seg06
open Go Go.RowKit Go.Proofs Go.Proofs.Ytgkplkmjnpofkaa.Abs

/-! A block that is only read: its type says nothing -/
theorem rel_ty {β : Loc} {t t' : TypeId} {R : Row} {w : World} (hR : Rel β [some ⟨false, t, R⟩] w) (ht : t' < globMark) : Rel β [some ⟨false, t', R⟩] w := by
  have one : ∀ {κ : Nat} {u : TypeId} {B : Blk}, ([some ⟨false, u, R⟩] : Heap)[κ]? = some (some B) → κ = 0 ∧ B = ⟨false, u, R⟩ := by
    intro κ u B h
    cases κ with
    | zero => simp at h; exact ⟨rfl, h.symm⟩
    | succ κ => simp at h
  refine ⟨⟨fun κ B A h1 h2 => ?_, fun κ κ' B B' A A' h1 h2 h3 h4 hne => ?_, hR.spot⟩, fun κ h => hR.dom κ h, fun κ B g h1 h2 h3 => ?_⟩
  · obtain ⟨rfl, rfl⟩ := one h1
    exact hR.blk 0 ⟨false, t, R⟩ A rfl h2
  · obtain ⟨rfl, rfl⟩ := one h1
    obtain ⟨rfl, rfl⟩ := one h2
    exact absurd rfl hne
  · obtain ⟨rfl, rfl⟩ := one h1
    exfalso
    have h4 : t' = globMark + g := h3
    subst h4
    exact absurd ht (Nat.not_lt.2 (Nat.le_add_right globMark g))
theorem retype {P : Program} {f : FuncId} {xs : List Value} {v : Value} {t t' : TypeId} {R : Row} (ht : t < globMark) (ht' : t' < globMark) (h : FnOk P f xs [some ⟨false, t, R⟩] v [some ⟨false, t, R⟩]) : FnOk P f xs [some ⟨false, t', R⟩] v [some ⟨false, t', R⟩] := by
  have one : ∀ {κ : Nat} {u : TypeId} {B : Blk}, ([some ⟨false, u, R⟩] : Heap)[κ]? = some (some B) → κ = 0 ∧ B = ⟨false, u, R⟩ := by
    intro κ u B h
    cases κ with
    | zero => simp at h; exact ⟨rfl, h.symm⟩
    | succ κ => simp at h
  refine ⟨h.fn, fun β vs w ha hR => (h.goes β vs w ha (rel_ty hR ht)).mono ?_⟩
  rintro e w' ⟨β', v', he, hv, tr⟩
  refine ⟨β', v', he, hv, ⟨tr.le, Nat.le_refl _, tr.fix, rel_ty tr.rel ht', tr.os, tr.tape, tr.output, tr.size, fun b hb _ => tr.frame b hb ?_, ?_⟩⟩
  · intro κ B A h1 h2
    obtain ⟨rfl, rfl⟩ := one h1
    cases h2
  · intro κ B A h1 h2
    obtain ⟨rfl, rfl⟩ := one h1
    cases h2

/-! Another text as long -/
def othN (a b : ByteArray) (i : Nat) : Nat := if i < b.size then (bys b).getD i 0 else i % 256
def othL (a b : ByteArray) (n : Nat) : List Nat := (List.range n).map (othN a b)
theorem othL_succ (a b : ByteArray) (n : Nat) : othL a b (n + 1) = othL a b n ++ [othN a b n] := by simp [othL, List.range_succ]
theorem othL_len (a b : ByteArray) (n : Nat) : (othL a b n).length = n := by simp [othL]
def oth (a b : ByteArray) : ByteArray := txt (othL a b a.size)
theorem oth_size (a b : ByteArray) : (oth a b).size = a.size := by rw [oth, txt_size, othL_len]
theorem snoc1 (l : List Nat) (n : Nat) : ii l ++ List.take 1 (List.drop 0 [((n : Nat) : Int)]) = ii (l ++ [n]) := by simp [ii]
theorem oth_loop (a b s4 : ByteArray) (ha : a.size < 2 ^ 40) : ∀ k i, i + k = a.size → f20.at1 a b s4 i (i : Nat) (ii (othL a b i)) (.string (oth a b)) [] := by
  intro k
  induction k with
  | zero =>
    intro i hi
    obtain rfl : i = a.size := by omega
    refine cst (f20.s3 (by simp) (by rw [ii_len, othL_len]; omega)) ?_ rfl
    rw [List.drop_zero, ii_take, List.take_of_length_le (by rw [othL_len]; exact Nat.le_refl _)]
    rfl
  | succ k ih =>
    intro i hi
    have nx := ih (i + 1) (by omega)
    rw [othL_succ] at nx
    have et : (i : Int) + 1 = ((i + 1 : Nat) : Int) := by simp
    by_cases h : i < b.size
    · have e : othN a b i = (bys b).getD i 0 := if_pos h
      rw [e] at nx
      refine f20.s2 (by simp; omega) (by simp; omega) (by omega) (by simp [Row.len]) ⟨by simp [Row.len, ii_len, othL_len], by omega, by omega⟩ (by omega) ?_
      rw [bt_bys, snoc1, et]
      exact nx
    · have e : othN a b i = i % 256 := if_neg h
      rw [e] at nx
      refine f20.s4 (by simp; omega) (by simp; omega) (by simp [Row.len]) ⟨by simp [Row.len, ii_len, othL_len], by omega, by omega⟩ (by omega) ?_
      rw [w8n, snoc1, et]
      exact nx
theorem oth_ok (a b : ByteArray) (ha : a.size < 2 ^ 40) : Pure Try.prog 20 [.string a, .string b] (.string (oth a b)) :=
  f20.ok (f20.s1 (oth_loop a b ⟨#[]⟩ ha a.size 0 (Nat.zero_add _)))
theorem lon_oth (a b c d : ByteArray) : lon (oth a c) (oth b d) = lon a b := by unfold lon; rw [oth_size, oth_size]
def othT (y0 y1 : ByteArray) (ts : List ByteArray) (i : Nat) : ByteArray := oth (ts.getD i ByteArray.empty) ([y0, y1].getD (i % 2) ByteArray.empty)
def kl (y0 y1 : ByteArray) (ts : List ByteArray) (n : Nat) : List ByteArray := (List.range n).map (othT y0 y1 ts)
theorem kl_succ (y0 y1 : ByteArray) (ts : List ByteArray) (n : Nat) : kl y0 y1 ts (n + 1) = kl y0 y1 ts n ++ [othT y0 y1 ts n] := by simp [kl, List.range_succ]
theorem kl_len (y0 y1 : ByteArray) (ts : List ByteArray) (n : Nat) : (kl y0 y1 ts n).length = n := by simp [kl]
theorem steps_sizes : ∀ (l m : List ByteArray) (s t : ByteArray), l.map (·.size) = m.map (·.size) → s.size = t.size → stepsL l s = stepsL m t
  | [], [], _, _, _, _ => rfl
  | [], _ :: _, _, _, h, _ => by simp at h
  | _ :: _, [], _, _, h, _ => by simp at h
  | x :: l, y :: m, s, t, h, e => by
    simp only [List.map_cons, List.cons.injEq] at h
    rw [stepsL, stepsL, steps_sizes l m s t h.2 e]
    unfold lon
    rw [h.1, e]
theorem kl_sizes (y0 y1 : ByteArray) (ts : List ByteArray) : (kl y0 y1 ts ts.length).map (·.size) = ts.map (·.size) := by
  apply List.ext_getElem
  · simp [kl]
  · intro i h1 h2
    have hi : i < ts.length := by simpa using h2
    simp only [kl, List.getElem_map, List.getElem_range, othT, oth_size]
    rw [List.getD_eq_getElem?_getD, List.getElem?_eq_getElem hi]
    rfl
theorem few_all {ts : List ByteArray} {n m : Nat} (h : fewL ts n m = true) : ts.length ≤ n ∧ ∀ x ∈ ts, x.size ≤ m := by
  simp only [fewL, Bool.and_eq_true, List.all_eq_true, decide_eq_true_eq] at h
  exact h
theorem steps_loop (x0 x1 y0 y1 : ByteArray) (ts : List ByteArray) (hn : ts.length ≤ 20) (hts : ∀ x ∈ ts, x.size ≤ 100) (hx : x0.size ≤ 1000) (b : Bool) (n1 n2 n3 n4 : Int) : ∀ k i, i + k = ts.length →
    f7.at1 x0 x1 y0 y1 ts ts.length b (oth x0 y0) n1 n1 n2 n2 n3 n3 n4 n4 i (i : Nat) [x0, x1] [y0, y1] (kl y0 y1 ts i) (.bool true) [some ⟨false, 9, .strs ts⟩] := by
  have bd : ∀ s : ByteArray, s.size ≤ 1000 → ∀ us : List ByteArray, us.length ≤ 20 → (∀ x ∈ us, x.size ≤ 100) → stepsL us s < 2 ^ 61 := by
    intro s hs us hl hu
    have h1 := stepsL_bd s 1000 hs us (fun x h => by have := hu x h; omega)
    have h2 : us.length * 1000 ≤ 20 * 1000 := Nat.mul_le_mul_right _ hl
    omega
  intro k
  induction k with
  | zero =>
    intro i hi
    obtain rfl : i = ts.length := by omega
    have hk : ∀ x ∈ kl y0 y1 ts ts.length, x.size ≤ 100 := by
      intro x hx
      simp only [kl, List.mem_map, List.mem_range] at hx
      obtain ⟨j, hj, rfl⟩ := hx
      rw [othT, oth_size, List.getD_eq_getElem?_getD, List.getElem?_eq_getElem hj]
      exact hts _ (List.getElem_mem hj)
    have h3 := f10_ok ts x0 (by omega) (bd x0 hx ts hn hts) (by omega) (fun x h => by have := hts x h; omega)
    have h4 := f10_ok (kl y0 y1 ts ts.length) (oth x0 y0) (by rw [oth_size]; omega) (bd _ (by rw [oth_size]; exact hx) _ (by rw [kl_len]; exact hn) hk) (by rw [kl_len]; omega) (fun x h => by have := hk x h; omega)
    rw [kl_len, steps_sizes _ ts (oth x0 y0) x0 (kl_sizes y0 y1 ts) (oth_size _ _)] at h4
    refine cst (f7.s6 (by simp) (by simp) h3 h4 awake_ok rfl (by simp) (by simp) (by simp) (by simp)) ?_ rfl
    simp
  | succ k ih =>
    intro i hi
    have hi2 : i < ts.length := by omega
    have e1 : ∀ y : Nat, 0 + (Int.toNat (y : Int)) * 1 = y := fun y => by simp
    have em : Int.tmod (i : Int) 2 = ((i % 2 : Nat) : Int) := by rw [Int.tmod_eq_emod_of_nonneg (by omega)]; omega
    have nx := ih (i + 1) (by omega)
    rw [kl_succ] at nx
    have hsz : (ts.getD i ByteArray.empty).size ≤ 100 := by
      rw [List.getD_eq_getElem?_getD, List.getElem?_eq_getElem hi2]; exact hts _ (List.getElem_mem hi2)
    have h6 := oth_ok (ts.getD i ByteArray.empty) ([y0, y1].getD (i % 2) ByteArray.empty) (by omega)
    refine f7.s5 (by simp; omega) (by omega) (by rw [e1]; exact hi2) (by rw [em]; omega) (by rw [em, e1]; simp; omega) (by rw [em, e1, e1]; exact h6) (by simp [Row.len]) ⟨by simp [Row.len, kl_len], by omega, by omega⟩ (by omega) ?_
    rw [show (i : Int) + 1 = ((i + 1 : Nat) : Int) by simp]
    exact nx
theorem steps_ok (x0 x1 y0 y1 : ByteArray) (ts : List ByteArray) (hl : ts.length ≤ 9223372036854775807) : FnOk Try.prog 7 [.agg #[.string x0, .string x1], .agg #[.string y0, .string y1], .slice (some ⟨0, 0, none⟩) ts.length 0] [some ⟨false, 9, .strs ts⟩] (.bool true) [some ⟨false, 9, .strs ts⟩] := by
  have fx := retype (t' := 40) (by decide) (by decide) (few_ok [x0, x1] (by simp) 2 1000)
  have fy := retype (t' := 40) (by decide) (by decide) (few_ok [y0, y1] (by simp) 2 1000)
  have ft := few_ok ts hl 20 100
  have r2 : ∀ a b : ByteArray, 0 < 2 ∧ 0 + 2 ≤ Row.len (.strs [a, b]) := fun a b => ⟨by decide, by simp [Row.len]⟩
  by_cases h1 : fewL [x0, x1] 2 1000 = true
  · by_cases h2 : fewL [y0, y1] 2 1000 = true
    · by_cases h3 : fewL ts 20 100 = true
      · obtain ⟨_, b1⟩ := few_all h1
        obtain ⟨hn, b3⟩ := few_all h3
        have z0 : x0.size ≤ 1000 := b1 x0 (by simp)
        have z1 : x1.size ≤ 1000 := b1 x1 (by simp)
        have w0 := oth_size x0 y0
        have w1 := oth_size x1 y1
        rw [h1] at fx; rw [h2] at fy; rw [h3] at ft
        have eq1 := equal_ok x0 x1 (by omega) (by omega)
        have eq2 := equal_ok (oth x0 y0) (oth x1 y1) (by omega) (by omega)
        have or1 := order_ok x0 x1 (by omega) (by omega)
        have or2 := order_ok (oth x0 y0) (oth x1 y1) (by omega) (by omega)
        have p1 := pick_ok true x0 x1 (by omega) (by omega)
        have p2 := pick_ok false (oth x0 y0) (oth x1 y1) (by omega) (by omega)
        have q1 := zero_ok x0 (by omega)
        have q2 := zero_ok (oth x0 y0) (by omega)
        rw [lon_oth] at eq2 or2 p2
        rw [oth_size] at q2
        exact f7.ok (f7.s4 (r2 _ _) fx rfl (r2 _ _) fy rfl ft rfl (by simp) (by simp) (oth_ok x0 y0 (by omega)) (by simp) (by simp) (oth_ok x1 y1 (by omega)) eq1 eq2 or1 or2 p1 p2 q1 q2 (steps_loop x0 x1 y0 y1 ts hn b3 z0 false _ _ _ _ ts.length 0 (Nat.zero_add _)))
      · rw [Bool.not_eq_true] at h3
        rw [h1] at fx; rw [h2] at fy; rw [h3] at ft
        exact f7.ok (f7.s3 (r2 _ _) fx rfl (r2 _ _) fy rfl ft rfl awake_ok)
    · rw [Bool.not_eq_true] at h2
      rw [h1] at fx; rw [h2] at fy
      exact f7.ok (f7.s2 (r2 _ _) fx rfl (r2 _ _) fy rfl awake_ok)
  · rw [Bool.not_eq_true] at h1
    rw [h1] at fx
    exact f7.ok (f7.s1 (r2 _ _) fx rfl awake_ok)
theorem steps_row (x0 : ByteArray) (u0 : x0.size ≤ maxLen) (x1 : ByteArray) (u1 : x1.size ≤ maxLen) (y0 : ByteArray) (v0 : y0.size ≤ maxLen) (y1 : ByteArray) (v1 : y1.size ≤ maxLen) (ts : List ByteArray) (hl : ts.length ≤ 9223372036854775807) :
    FnOk Try.prog 7 [.agg #[.string x0, .string x1], .agg #[.string y0, .string y1], .slice (some ⟨0, 0, none⟩) (Row.len (.strs ts)) 0] [some ⟨false, 9, .strs ts⟩] (.bool true) [some ⟨false, 9, .strs ts⟩] := steps_ok x0 x1 y0 y1 ts hl
end Go.Proofs.Ytgkplkmjnpofkaa.Abs.Seg06

