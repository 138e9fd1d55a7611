/- The field's laws, and what the functions of gf and of its reference give. -/
import Derived.Test.YtgedgcbljfmpaaaLtSeg2
set_option linter.unusedVariables false
set_option linter.unusedSimpArgs false
set_option maxRecDepth 100000
/- Plain facts on the field of 256 elements: products bit by bit are bilinear, and hence laws that hold of the eight bits hold of all bytes. -/
namespace Go.Proofs.Ytgedgcbljfmpaaa.Abs.Gf

def dbl (n : Nat) : Nat := (n * 2 % 256) ^^^ (if 128 ≤ n then 27 else 0)
/-- The sum of the doubles of 'a' for the bits of 'b'. -/
def S : Nat → Nat → Nat → Nat
  | 0, _, _ => 0
  | k + 1, a, b => (if b % 2 = 1 then a else 0) ^^^ S k (dbl a) (b / 2)
def gm (a b : Nat) : Nat := S 8 a b

theorem xlt {a b : Nat} (ha : a < 256) (hb : b < 256) : a ^^^ b < 256 := Nat.xor_lt_two_pow (n := 8) ha hb
theorem dbl_lt (n : Nat) : dbl n < 256 := by
  unfold dbl
  refine xlt (Nat.mod_lt _ (by decide)) ?_
  split <;> decide
theorem S_lt : ∀ (k a b : Nat), a < 256 → S k a b < 256
  | 0, _, _, _ => by simp [S]
  | k + 1, a, b, h => by
    unfold S
    refine xlt ?_ (S_lt k _ _ (dbl_lt a))
    split
    · exact h
    · decide
theorem gm_lt {a b : Nat} (ha : a < 256) : gm a b < 256 := S_lt 8 a b ha

theorem x4 (a b c d : Nat) : (a ^^^ b) ^^^ (c ^^^ d) = (a ^^^ c) ^^^ (b ^^^ d) := by
  rw [Nat.xor_assoc, Nat.xor_assoc, ← Nat.xor_assoc b c d, Nat.xor_comm b c, Nat.xor_assoc c b d]

theorem dbl_xor : ∀ a, a < 256 → ∀ b, b < 256 → dbl (a ^^^ b) = dbl a ^^^ dbl b := by
  intro a ha b hb
  have h1 : ∀ a b : Nat, (a ^^^ b) * 2 % 256 = (a * 2 % 256) ^^^ (b * 2 % 256) := by
    intro a b
    have e : ∀ n : Nat, n * 2 = n <<< 1 := fun n => by simp [Nat.shiftLeft_eq]
    rw [e, e, e, Nat.shiftLeft_xor_distrib, show 256 = 2 ^ 8 from rfl, Nat.xor_mod_two_pow]
  have h2 : ∀ n : Nat, n < 256 → ((128 ≤ n) ↔ n.testBit 7 = true) := by
    intro n hn
    rw [Nat.testBit_eq_decide_div_mod_eq]
    simp
    omega
  have h3 : ((128 ≤ a ^^^ b) ↔ (¬ (128 ≤ a ↔ 128 ≤ b))) := by
    rw [h2 _ (xlt ha hb), h2 a ha, h2 b hb, Nat.testBit_xor]
    cases a.testBit 7 <;> cases b.testBit 7 <;> simp
  unfold dbl
  rw [h1, x4]
  congr 1
  by_cases p : 128 ≤ a <;> by_cases q : 128 ≤ b <;> simp [h3, p, q]

theorem S_xorL : ∀ (k a b c : Nat), a < 256 → b < 256 → S k (a ^^^ b) c = S k a c ^^^ S k b c
  | 0, _, _, _, _, _ => by simp [S]
  | k + 1, a, b, c, ha, hb => by
    unfold S
    rw [dbl_xor a ha b hb, S_xorL k _ _ _ (dbl_lt a) (dbl_lt b), x4]
    congr 1
    split <;> simp
theorem S_xorR : ∀ (k a b c : Nat), S k a (b ^^^ c) = S k a b ^^^ S k a c
  | 0, _, _, _ => by simp [S]
  | k + 1, a, b, c => by
    unfold S
    have h1 : (b ^^^ c) / 2 = b / 2 ^^^ c / 2 := Nat.xor_div_two
    have h2 : (b ^^^ c) % 2 = (b % 2) ^^^ (c % 2) := Nat.xor_mod_two_pow (n := 1)
    rw [h1, S_xorR k, x4]
    congr 1
    rcases Nat.mod_two_eq_zero_or_one b with p | p <;> rcases Nat.mod_two_eq_zero_or_one c with q | q <;> simp [h2, p, q]
theorem gm_xorL {a b : Nat} (c : Nat) (ha : a < 256) (hb : b < 256) : gm (a ^^^ b) c = gm a c ^^^ gm b c := S_xorL 8 a b c ha hb
theorem gm_xorR (a b c : Nat) : gm a (b ^^^ c) = gm a b ^^^ gm a c := S_xorR 8 a b c

/-- Two sums-to-sums functions that are the same at the bits are the same. -/
theorem split : ∀ k, k < 8 → ∀ b, b < 2 ^ (k + 1) → 2 ^ k ≤ b → 2 ^ k ^^^ (b - 2 ^ k) = b := by decide +kernel
theorem lin_ext {f g : Nat → Nat} (hf : ∀ a b, a < 256 → b < 256 → f (a ^^^ b) = f a ^^^ f b) (hg : ∀ a b, a < 256 → b < 256 → g (a ^^^ b) = g a ^^^ g b) (h : ∀ i, i < 8 → f (2 ^ i) = g (2 ^ i)) : ∀ b, b < 256 → f b = g b := by
  have h0 : ∀ {f : Nat → Nat}, (∀ a b, a < 256 → b < 256 → f (a ^^^ b) = f a ^^^ f b) → f 0 = 0 := by
    intro f hf
    have := hf 0 0 (by decide) (by decide)
    simpa using this
  have key : ∀ k, k ≤ 8 → ∀ b, b < 2 ^ k → f b = g b := by
    intro k
    induction k with
    | zero => intro _ b hb; obtain rfl : b = 0 := by simpa using hb
              rw [h0 hf, h0 hg]
    | succ k ih =>
      intro hk b hb
      rcases Nat.lt_or_ge b (2 ^ k) with hlt | hge
      · exact ih (by omega) b hlt
      · have e := split k (by omega) b hb hge
        have hp : 2 ^ (k + 1) ≤ 256 := Nat.pow_le_pow_right (n := 2) (by decide) hk
        have hp2 : 2 ^ (k + 1) = 2 * 2 ^ k := by rw [Nat.pow_succ]; omega
        rw [← e, hf _ _ (by omega) (by omega), hg _ _ (by omega) (by omega), h k (by omega), ih (by omega) (b - 2 ^ k) (by omega)]
  exact key 8 (by decide)

theorem gm_comm : ∀ a, a < 256 → ∀ b, b < 256 → gm a b = gm b a := by
  have h : ∀ i, i < 8 → ∀ j, j < 8 → gm (2 ^ i) (2 ^ j) = gm (2 ^ j) (2 ^ i) := by decide +kernel
  have p8 : ∀ i, i < 8 → 2 ^ i < 256 := by decide
  intro a ha b hb
  refine lin_ext (f := fun b => gm a b) (g := fun b => gm b a) (fun x y _ _ => gm_xorR a x y) (fun x y hx hy => gm_xorL a hx hy) (fun j hj => ?_) b hb
  exact lin_ext (f := fun a => gm a (2 ^ j)) (g := fun a => gm (2 ^ j) a) (fun x y hx hy => gm_xorL _ hx hy) (fun x y _ _ => gm_xorR _ x y) (fun i hi => h i hi j hj) a ha

theorem gm_assoc : ∀ a, a < 256 → ∀ b, b < 256 → ∀ c, c < 256 → gm (gm a b) c = gm a (gm b c) := by
  have h : ∀ i, i < 8 → ∀ j, j < 8 → ∀ k, k < 8 → gm (gm (2 ^ i) (2 ^ j)) (2 ^ k) = gm (2 ^ i) (gm (2 ^ j) (2 ^ k)) := by decide +kernel
  have p8 : ∀ i, i < 8 → 2 ^ i < 256 := by decide
  intro a ha b hb c hc
  refine lin_ext (f := fun c => gm (gm a b) c) (g := fun c => gm a (gm b c)) (fun x y _ _ => gm_xorR _ x y) (fun x y _ _ => by simp only [gm_xorR]) (fun k hk => ?_) c hc
  refine lin_ext (f := fun b => gm (gm a b) (2 ^ k)) (g := fun b => gm a (gm b (2 ^ k))) (fun x y _ _ => by simp only [gm_xorR]; rw [gm_xorL _ (gm_lt ha) (gm_lt ha)]) (fun x y hx hy => by rw [gm_xorL _ hx hy, gm_xorR]) (fun j hj => ?_) b hb
  exact lin_ext (f := fun a => gm (gm a (2 ^ j)) (2 ^ k)) (g := fun a => gm a (gm (2 ^ j) (2 ^ k))) (fun x y hx hy => by rw [gm_xorL _ hx hy, gm_xorL _ (gm_lt hx) (gm_lt hy)]) (fun x y hx hy => gm_xorL _ hx hy) (fun i hi => h i hi j hj k hk) a ha

theorem gm_one : ∀ a, a < 256 → gm a 1 = a := by
  intro a _
  simp [gm, S]
theorem gm_zero (a : Nat) : gm a 0 = 0 := by simp [gm, S]

/-! The document's product -/
def prod : Nat → Nat → Nat → Nat
  | 0, _, _ => 0
  | k + 1, a, b => prod k a b ^^^ (if b / 2 ^ k % 2 = 1 then a * 2 ^ k else 0)
/-- The rest by 283: the bits from 8 + k - 1 down to 8. -/
def red : Nat → Nat → Nat
  | 0, p => p
  | k + 1, p => red k (if p / 2 ^ (k + 8) % 2 = 1 then p ^^^ 283 * 2 ^ k else p)
def rm (a b : Nat) : Nat := red 7 (prod 8 a b) % 256

theorem bit_xor (a b k : Nat) : ((a ^^^ b) / 2 ^ k % 2 = 1) ↔ ¬ ((a / 2 ^ k % 2 = 1) ↔ (b / 2 ^ k % 2 = 1)) := by
  have h : ∀ n : Nat, (n / 2 ^ k % 2 = 1) ↔ n.testBit k = true := by
    intro n; rw [Nat.testBit_eq_decide_div_mod_eq]; simp
  rw [h, h, h, Nat.testBit_xor]
  cases a.testBit k <;> cases b.testBit k <;> simp

theorem prod_xor : ∀ (k a b c : Nat), prod k a (b ^^^ c) = prod k a b ^^^ prod k a c
  | 0, _, _, _ => by simp [prod]
  | k + 1, a, b, c => by
    unfold prod
    rw [prod_xor k, x4]
    congr 1
    by_cases p : b / 2 ^ k % 2 = 1 <;> by_cases q : c / 2 ^ k % 2 = 1 <;> simp [bit_xor, p, q]
theorem red_xor : ∀ (k p q : Nat), red k (p ^^^ q) = red k p ^^^ red k q
  | 0, _, _ => rfl
  | k + 1, p, q => by
    unfold red
    rw [← red_xor k]
    congr 1
    by_cases h : p / 2 ^ (k + 8) % 2 = 1 <;> by_cases h2 : q / 2 ^ (k + 8) % 2 = 1 <;> simp only [bit_xor, h, h2, if_true, if_false, iff_self, not_true, iff_true, iff_false, true_iff, false_iff, not_false_iff]
    · rw [x4, Nat.xor_self, Nat.xor_zero]
    · rw [Nat.xor_assoc, Nat.xor_comm q, ← Nat.xor_assoc]
    · rw [Nat.xor_assoc]

theorem rm_eq : ∀ a, a < 256 → ∀ b, b < 256 → rm a b = gm a b := by
  have h : ∀ a, a < 256 → ∀ j, j < 8 → rm a (2 ^ j) = gm a (2 ^ j) := by decide +kernel
  intro a ha b hb
  refine lin_ext (f := fun b => rm a b) (g := fun b => gm a b) (fun x y _ _ => ?_) (fun x y _ _ => gm_xorR a x y) (fun j hj => h a ha j hj) b hb
  show rm a (x ^^^ y) = rm a x ^^^ rm a y
  unfold rm
  rw [prod_xor, red_xor, show 256 = 2 ^ 8 from rfl, Nat.xor_mod_two_pow]

end Go.Proofs.Ytgedgcbljfmpaaa.Abs.Gf

/- Powers, inverses and logs in the field of 256 elements. -/
namespace Go.Proofs.Ytgedgcbljfmpaaa.Abs.Gf

def gp (a : Nat) : Nat → Nat
  | 0 => 1
  | n + 1 => gm (gp a n) a
theorem gp_lt {a : Nat} : ∀ n, gp a n < 256
  | 0 => by simp [gp]
  | n + 1 => gm_lt (gp_lt n)
theorem gp_add {a : Nat} (ha : a < 256) (m : Nat) : ∀ n, gp a (m + n) = gm (gp a m) (gp a n)
  | 0 => by simp [gp, gm_one _ (gp_lt m)]
  | n + 1 => by
    rw [← Nat.add_assoc]
    simp only [gp]
    rw [gp_add ha m n, gm_assoc _ (gp_lt m) _ (gp_lt n) _ ha]
theorem gp_one {a : Nat} (ha : a < 256) : gp a 1 = a := by
  simp only [gp]
  rw [gm_comm _ (by decide) _ ha, gm_one _ ha]
theorem gp_mul {a : Nat} (ha : a < 256) (m : Nat) : ∀ n, gp (gp a m) n = gp a (m * n)
  | 0 => rfl
  | n + 1 => by
    rw [Nat.mul_succ, gp_add ha, ← gp_mul ha m n]
    rfl
theorem gp_sq {a : Nat} (ha : a < 256) (n : Nat) : gp (gm a a) n = gp a (2 * n) := by
  have : gm a a = gp a 2 := by rw [show (2 : Nat) = 1 + 1 from rfl, gp_add ha, gp_one ha]
  rw [this, gp_mul ha]

/-- Powers by squares. -/
def fp : Nat → Nat → Nat → Nat → Nat
  | 0, _, _, p => p
  | k + 1, a, n, p => if n = 0 then p else fp k (gm a a) (n / 2) (if n % 2 = 1 then gm p a else p)
theorem fp_eq : ∀ (k a n p : Nat), a < 256 → p < 256 → n < 2 ^ k → fp k a n p = gm p (gp a n)
  | 0, a, n, p, ha, hp, hn => by
    obtain rfl : n = 0 := by simpa using hn
    simp [fp, gp, gm_one _ hp]
  | k + 1, a, n, p, ha, hp, hn => by
    rw [fp]
    split
    · rename_i h; subst h; simp [gp, gm_one _ hp]
    · have hk : n / 2 < 2 ^ k := by rw [Nat.pow_succ] at hn; omega
      by_cases h1 : n % 2 = 1
      · rw [if_pos h1, fp_eq k _ _ _ (gm_lt ha) (gm_lt hp) hk, gp_sq ha, gm_assoc _ hp _ ha _ (gp_lt _)]
        congr 1
        have : gm a (gp a (2 * (n / 2))) = gp a (1 + 2 * (n / 2)) := by rw [gp_add ha, gp_one ha]
        rw [this]
        congr 1
        omega
      · rw [if_neg h1, fp_eq k _ _ _ (gm_lt ha) hp hk, gp_sq ha]
        congr 2
        omega

def inv (a : Nat) : Nat := gp a 254
theorem inv_lt (a : Nat) : inv a < 256 := gp_lt _
theorem inv_fp {a : Nat} (ha : a < 256) : fp 8 a 254 1 = inv a := by
  rw [fp_eq 8 a 254 1 ha (by decide) (by decide), gm_comm _ (by decide) _ (gp_lt _), gm_one _ (gp_lt _)]; rfl
theorem mul_inv : ∀ a, a < 256 → a ≠ 0 → gm a (inv a) = 1 := by
  have h : ∀ a, a < 256 → a ≠ 0 → gm a (fp 8 a 254 1) = 1 := by decide +kernel
  intro a ha h0
  rw [← inv_fp ha]
  exact h a ha h0
theorem inv_uniq {a b : Nat} (ha : a < 256) (hb : b < 256) (h : gm a b = 1) : b = inv a := by
  have h0 : a ≠ 0 := by rintro rfl; rw [gm_comm _ (by decide) _ hb, gm_zero] at h; cases h
  have := mul_inv a ha h0
  have e : gm (gm (inv a) a) b = gm (inv a) (gm a b) := gm_assoc _ (inv_lt a) _ ha _ hb
  rw [gm_comm _ (inv_lt a) _ ha, this, h, gm_one _ (inv_lt a), gm_comm _ (by decide) _ hb, gm_one _ hb] at e
  exact e
theorem gm_nz {a b : Nat} (ha : a < 256) (hb : b < 256) (h : gm a b = 0) : a = 0 ∨ b = 0 := by
  by_cases h0 : a = 0
  · exact .inl h0
  right
  have e : gm (gm (inv a) a) b = gm (inv a) (gm a b) := gm_assoc _ (inv_lt a) _ ha _ hb
  rwa [gm_comm _ (inv_lt a) _ ha, mul_inv a ha h0, h, gm_zero, gm_comm _ (by decide) _ hb, gm_one _ hb] at e
theorem gp_nz {a : Nat} (ha : a < 256) (h0 : a ≠ 0) : ∀ n, gp a n ≠ 0
  | 0 => by simp [gp]
  | n + 1 => fun h => by
    rcases gm_nz (gp_lt n) ha h with h | h
    · exact gp_nz ha h0 n h
    · exact h0 h

/-- a step of the generator -/
def t3 (x : Nat) : Nat := x ^^^ dbl x
theorem t3_eq {x : Nat} : t3 x = gm x 3 := by simp [t3, gm, S]
theorem t3_lt {x : Nat} (h : x < 256) : t3 x < 256 := xlt h (dbl_lt x)

/-- The first place of 'a' among the next powers. -/
def find : Nat → Nat → Nat → Nat → Option Nat
  | 0, _, _, _ => none
  | k + 1, n, p, a => if p = a then some n else find k (n + 1) (t3 p) a
theorem find_none : ∀ (k n a : Nat) (i : Nat), find k n (gp 3 n) a = none → i < k → gp 3 (n + i) ≠ a
  | 0, _, _, i, _, h => by omega
  | k + 1, n, a, i, h, hi => by
    rw [find] at h
    split at h
    · cases h
    · rename_i hne
      rw [t3_eq] at h
      cases i with
      | zero => exact hne
      | succ i => have := find_none k (n + 1) a i h (by omega); rwa [show n + 1 + i = n + (i + 1) by omega] at this
theorem find_some : ∀ (k n a m : Nat), find k n (gp 3 n) a = some m → n ≤ m ∧ m < n + k ∧ gp 3 m = a ∧ ∀ i, n ≤ i → i < m → gp 3 i ≠ a
  | 0, _, _, m, h => by simp [find] at h
  | k + 1, n, a, m, h => by
    rw [find] at h
    split at h
    · rename_i he
      cases h
      exact ⟨Nat.le_refl _, by omega, he, fun i h1 h2 => by omega⟩
    · rename_i hne
      rw [t3_eq] at h
      obtain ⟨h1, h2, h3, h4⟩ := find_some k (n + 1) a m h
      refine ⟨by omega, by omega, h3, fun i e1 e2 => ?_⟩
      by_cases hi : i = n
      · subst hi; exact hne
      · exact h4 i (by omega) e2
def lg (a : Nat) : Nat := (find 255 0 1 a).getD 0
theorem lg_find : ∀ a, a < 256 → a ≠ 0 → (find 255 0 1 a).isSome = true := by decide +kernel
theorem lg_spec {a : Nat} (ha : a < 256) (h0 : a ≠ 0) : lg a < 255 ∧ gp 3 (lg a) = a ∧ ∀ i, i < lg a → gp 3 i ≠ a := by
  have h := lg_find a ha h0
  unfold lg
  cases hf : find 255 0 1 a with
  | none => rw [hf] at h; cases h
  | some m =>
    obtain ⟨_, h2, h3, h4⟩ := find_some 255 0 a m hf
    exact ⟨by simpa using h2, h3, fun i hi => h4 i (Nat.zero_le _) hi⟩
theorem ord3 : gp 3 255 = 1 := by decide +kernel
theorem per3 (n : Nat) : ∀ k, gp 3 (n + 255 * k) = gp 3 n
  | 0 => rfl
  | k + 1 => by
    rw [Nat.mul_succ, ← Nat.add_assoc, gp_add (by decide), per3 n k, ord3, gm_one _ (gp_lt n)]
theorem mod3 (n : Nat) : gp 3 (n % 255) = gp 3 n := by
  have := per3 (n % 255) (n / 255)
  rw [Nat.mod_add_div] at this
  exact this.symm
/-- The log undoes the power. -/
theorem lg_gp : ∀ n, n < 255 → lg (gp 3 n) = n := by
  have h : ∀ k n p, find k n p p = some n ∨ k = 0 := by intro k n p; cases k with | zero => exact .inr rfl | succ k => left; simp [find]
  intro n hn
  have h0 : gp 3 n ≠ 0 := gp_nz (by decide) (by decide) n
  obtain ⟨h1, h2, h3⟩ := lg_spec (gp_lt n) h0
  have hle : lg (gp 3 n) ≤ n := by
    rcases Nat.lt_or_ge n (lg (gp 3 n)) with h | h
    · exact absurd rfl (h3 n h)
    · exact h
  rcases Nat.eq_or_lt_of_le hle with h | h
  · exact h
  -- a shorter period would leave no room for all
  exfalso
  have hinj : ∀ m, m < 255 → 0 < m → gp 3 m ≠ 1 := by
    have : (find 254 1 3 1) = none := by decide +kernel
    intro m hm h0
    have := find_none 254 1 1 (m - 1) (by rw [gp_one (by decide)]; exact this) (by omega)
    rwa [show 1 + (m - 1) = m by omega] at this
  have e := gp_add (a := 3) (by decide) (lg (gp 3 n)) (n - lg (gp 3 n))
  rw [show lg (gp 3 n) + (n - lg (gp 3 n)) = n by omega, h2] at e
  have e2 : gm (gm (inv (gp 3 n)) (gp 3 n)) (gp 3 (n - lg (gp 3 n))) = gm (inv (gp 3 n)) (gp 3 n) := by
    rw [gm_assoc _ (inv_lt _) _ (gp_lt _) _ (gp_lt _), ← e]
  rw [gm_comm _ (inv_lt _) _ (gp_lt _), mul_inv _ (gp_lt _) h0, gm_comm _ (by decide) _ (gp_lt _), gm_one _ (gp_lt _)] at e2
  exact hinj _ (by omega) (by omega) e2
end Go.Proofs.Ytgedgcbljfmpaaa.Abs.Gf

namespace Go.Proofs.Ytgedgcbljfmpaaa.Abs.Seg07
open Go Go.RowKit Go.Proofs Go.Proofs.Ytgedgcbljfmpaaa.Abs Go.Proofs.Ytgedgcbljfmpaaa.Abs.Gf

theorem cst {at_ : Value → Heap → Prop} {v v2 : Value} {H H2 : Heap} (h : at_ v H) (e : v2 = v) (e2 : H2 = H) : at_ v2 H2 := by subst e; subst e2; exact h
theorem w8 (n : Nat) : wrapE .u8 (n : Int) = ((n % 256 : Nat) : Int) := by simp [wrapE]

theorem double_ok {n : Nat} (hn : n < 256) : Pure Try.prog 25 [.int .u8 n] (.int .u8 (dbl n)) := by
  have e : (n : Int) * 2 ^ 1 = ((n * 2 : Nat) : Int) := by simp
  refine f25.ok ?_
  by_cases h : 128 ≤ n
  · refine cst (f25.s1 (x0 := n) (by simp; omega)) ?_ rfl
    rw [e, w8, show (27 : Int) = ((27 : Nat) : Int) from rfl, xor_u8 (Nat.mod_lt _ (by decide)) (by decide)]
    simp [dbl, h]
  · refine cst (f25.s2 (x0 := n) (by simp; omega)) ?_ rfl
    rw [e, w8]
    simp [dbl, h]

theorem and1 {n : Nat} (hn : n < 256) : Go.bits .and .u8 n 1 = ((n % 2 : Nat) : Int) := by
  have := (and_u8 (a := n) (b := 1) hn (by decide))
  rw [show (1 : Int) = ((1 : Nat) : Int) from rfl, this, Nat.and_one_is_mod]

theorem mul_loop (a0 b0 : Nat) : ∀ (k a b p : Nat), a < 256 → b < 2 ^ k → b < 256 → p < 256 → f18.at1 a0 b0 a b p (.int .u8 ((p ^^^ S k a b : Nat) : Int)) [] := by
  intro k
  induction k with
  | zero =>
    intro a b p ha hb _ hp
    obtain rfl : b = 0 := by simpa using hb
    exact cst (f18.s3 (by simp)) (by simp [S]) rfl
  | succ k ih =>
    intro a b p ha hb hb2 hp
    by_cases h0 : b = 0
    · subst h0
      have hz : ∀ k x, S k x 0 = 0 := by
        intro k
        induction k with
        | zero => intro x; rfl
        | succ k ih => intro x; simp [S, ih]
      exact cst (f18.s3 (by simp)) (by simp [hz]) rfl
    have hd : ((b : Nat) : Int) / 2 ^ 1 = ((b / 2 : Nat) : Int) := by simp
    have hb3 : b / 2 < 2 ^ k := by rw [Nat.pow_succ] at hb; omega
    by_cases h1 : b % 2 = 1
    · refine f18.s2 (r1 := (dbl a : Nat)) (by simp; omega) (by rw [and1 hb2]; simp [h1]) (double_ok ha) ?_
      rw [hd, xor_u8 hp ha]
      refine cst (ih (dbl a) (b / 2) (p ^^^ a) (dbl_lt a) hb3 (by omega) (xlt hp ha)) ?_ rfl
      rw [S]
      simp [h1, Nat.xor_assoc]
    · refine f18.s4 (r1 := (dbl a : Nat)) (by simp; omega) (by rw [and1 hb2]; simp; omega) (double_ok ha) ?_
      rw [hd]
      refine cst (ih (dbl a) (b / 2) p (dbl_lt a) hb3 (by omega) hp) ?_ rfl
      rw [S]
      simp [h1]

theorem mul_ok {a b : Nat} (ha : a < 256) (hb : b < 256) : Pure Try.prog 18 [.int .u8 a, .int .u8 b] (.int .u8 (gm a b)) := by
  refine f18.ok (f18.s1 ?_)
  refine cst (mul_loop a b 8 a b 0 ha hb hb (by decide)) ?_ rfl
  simp [gm]

theorem add_ok {a b : Nat} (ha : a < 256) (hb : b < 256) : Pure Try.prog 17 [.int .u8 a, .int .u8 b] (.int .u8 ((a ^^^ b : Nat) : Int)) :=
  f17.ok (cst f17.s1 (by rw [xor_u8 ha hb]) rfl)

end Go.Proofs.Ytgedgcbljfmpaaa.Abs.Seg07

namespace Go.Proofs.Ytgedgcbljfmpaaa.Abs.Seg07
open Go Go.RowKit Go.Proofs Go.Proofs.Ytgedgcbljfmpaaa.Abs Go.Proofs.Ytgedgcbljfmpaaa.Abs.Gf

/-- The document's product. -/
theorem u64 (i : Nat) (h : i < 256) : wrapE .u64 (i : Int) = (i : Int) := by simp only [wrapE]; omega
theorem shr_nat (a i : Nat) : ((a : Nat) : Int) / 2 ^ (Int.toNat (i : Int)) % 2 = ((a / 2 ^ i % 2 : Nat) : Int) := by simp

theorem prod_loop (a b : Nat) (ha : a < 256) (hb : b < 256) (hend : ∀ p, p < 2 ^ 15 → p = prod 8 a b → f19.at1 a b (p : Nat) 8 (.int .u8 (rm a b : Nat)) []) :
    ∀ (j i : Nat), i + j = 8 → f19.at1 a b (prod i a b : Nat) (i : Nat) (.int .u8 (rm a b : Nat)) [] := by
  have hp : ∀ i, i ≤ 8 → prod i a b < 2 ^ (8 + i) := by
    intro i
    induction i with
    | zero => intro _; simp [prod]
    | succ i ih =>
      intro h
      unfold prod
      refine Nat.xor_lt_two_pow (Nat.lt_trans (ih (by omega)) (Nat.pow_lt_pow_right (by decide) (by omega))) ?_
      split
      · have : a * 2 ^ i < 2 ^ 8 * 2 ^ i := Nat.mul_lt_mul_of_pos_right ha (Nat.two_pow_pos i)
        rw [← Nat.pow_add] at this
        exact Nat.lt_trans this (Nat.pow_lt_pow_right (by decide) (by omega))
      · exact Nat.two_pow_pos _
  have hp15 : ∀ i, i ≤ 8 → prod i a b < 2 ^ 16 := fun i h => Nat.lt_of_lt_of_le (hp i h) (Nat.pow_le_pow_right (by decide) (by omega))
  intro j
  induction j with
  | zero =>
    intro i hi
    obtain rfl : i = 8 := by omega
    refine hend _ ?_ rfl
    -- the eighth bit stands at place 7: at most 15 bits
    have : ∀ i, i ≤ 8 → prod i a b < 2 ^ 15 := by
      intro i
      induction i with
      | zero => intro _; simp [prod]
      | succ i ih =>
        intro h
        unfold prod
        refine Nat.xor_lt_two_pow (ih (by omega)) ?_
        split
        · have h1 : a * 2 ^ i < 2 ^ 8 * 2 ^ i := Nat.mul_lt_mul_of_pos_right ha (Nat.two_pow_pos i)
          rw [← Nat.pow_add] at h1
          exact Nat.lt_of_lt_of_le h1 (Nat.pow_le_pow_right (by decide) (by omega))
        · exact Nat.two_pow_pos _
    exact this 8 (by decide)
  | succ j ih =>
    intro i hi
    have hi8 : i < 8 := by omega
    have e1 : (i : Int) + 1 = ((i + 1 : Nat) : Int) := by simp
    by_cases hbit : b / 2 ^ i % 2 = 1
    · refine f19.s2 (by simp; omega) (by omega) (by rw [u64 i (by omega)]; simp [IntKind.bits]; omega) ?_ ?_ (by omega) (by omega) ?_
      · rw [u64 i (by omega)]; exact ⟨Int.ediv_nonneg (by omega) (Int.le_of_lt (Int.pow_pos (by decide))), by decide⟩
      · rw [u64 i (by omega), shr_nat, hbit]; rfl
      · rw [u64 i (by omega), e1]
        have e2 : (a : Int) * 2 ^ (Int.toNat (i : Int)) = ((a * 2 ^ i : Nat) : Int) := by simp
        have h3 : a * 2 ^ i < 2 ^ 16 := by
          have h1 : a * 2 ^ i < 2 ^ 8 * 2 ^ i := Nat.mul_lt_mul_of_pos_right ha (Nat.two_pow_pos i)
          rw [← Nat.pow_add] at h1
          exact Nat.lt_of_lt_of_le h1 (Nat.pow_le_pow_right (by decide) (by omega))
        have h4 := hp15 i (by omega)
        rw [e2, wrapE_i64 (by omega) (by omega), xor_i64 (by omega) (by omega)]
        have := ih (i + 1) (by omega)
        simpa only [prod, hbit, if_true] using this
    · refine f19.s4 (by simp; omega) (by omega) (by rw [u64 i (by omega)]; simp [IntKind.bits]; omega) ?_ ?_ (by omega) ?_
      · rw [u64 i (by omega)]; exact ⟨Int.ediv_nonneg (by omega) (Int.le_of_lt (Int.pow_pos (by decide))), by decide⟩
      · rw [u64 i (by omega), shr_nat]; exact decide_eq_false (by exact_mod_cast hbit)
      · rw [e1]
        have := ih (i + 1) (by omega)
        simpa only [prod, hbit, if_false, Nat.xor_zero] using this

theorem red_loop (a b : Nat) : ∀ (k p : Nat), k ≤ 7 → p < 2 ^ 15 → f19.at2 a b (p : Nat) ((k + 7 : Nat) : Int) (.int .u8 ((red k p % 256 : Nat) : Int)) [] := by
  intro k
  induction k with
  | zero =>
    intro p _ hp
    exact cst (f19.s6 (by simp)) (by rw [w8]; rfl) rfl
  | succ k ih =>
    intro p hk hp
    have e0 : ((k + 1 + 7 : Nat) : Int) = ((k + 8 : Nat) : Int) := by omega
    have e1 : ((k + 8 : Nat) : Int) - 1 = ((k + 7 : Nat) : Int) := by omega
    have e2 : ((k + 8 : Nat) : Int) - 8 = ((k : Nat) : Int) := by omega
    rw [e0]
    by_cases hbit : p / 2 ^ (k + 8) % 2 = 1
    · refine f19.s5 (by simp; omega) (by rw [u64 _ (by omega)]; simp [IntKind.bits]; omega) ?_ ?_ (by omega) (by rw [e2, u64 _ (by omega)]; simp [IntKind.bits]; omega) (by omega) ?_
      · rw [u64 _ (by omega)]; exact ⟨Int.ediv_nonneg (by omega) (Int.le_of_lt (Int.pow_pos (by decide))), by decide⟩
      · rw [u64 _ (by omega), shr_nat, hbit]; rfl
      · rw [e1, e2, u64 _ (by omega)]
        have e3 : (283 : Int) * 2 ^ (Int.toNat (k : Int)) = ((283 * 2 ^ k : Nat) : Int) := by simp
        have h3 : 283 * 2 ^ k < 2 ^ 15 + 2 ^ 15 := by
          have : 2 ^ k ≤ 2 ^ 6 := Nat.pow_le_pow_right (by decide) (by omega)
          omega
        have h4 : 283 * 2 ^ k < 2 ^ 15 := by
          have : 2 ^ k ≤ 2 ^ 6 := Nat.pow_le_pow_right (by decide) (by omega)
          omega
        rw [e3, wrapE_i64 (by omega) (by omega), xor_i64 (by omega) (by omega)]
        have := ih (p ^^^ 283 * 2 ^ k) (by omega) (Nat.xor_lt_two_pow hp h4)
        refine cst this ?_ rfl
        rw [red, if_pos hbit]
    · refine f19.s7 (by simp; omega) (by rw [u64 _ (by omega)]; simp [IntKind.bits]; omega) ?_ ?_ (by omega) ?_
      · rw [u64 _ (by omega)]; exact ⟨Int.ediv_nonneg (by omega) (Int.le_of_lt (Int.pow_pos (by decide))), by decide⟩
      · rw [u64 _ (by omega), shr_nat]; exact decide_eq_false (by exact_mod_cast hbit)
      · rw [e1]
        refine cst (ih p (by omega) hp) ?_ rfl
        rw [red, if_neg hbit]

theorem rmul_ok {a b : Nat} (ha : a < 256) (hb : b < 256) : Pure Try.prog 19 [.int .u8 a, .int .u8 b] (.int .u8 (gm a b)) := by
  rw [← rm_eq a ha b hb]
  refine f19.ok (f19.s1 ?_)
  refine prod_loop a b ha hb (fun p hp he => ?_) 8 0 rfl
  refine f19.s3 (by simp) ?_
  have := red_loop a b 7 p (by decide) hp
  rw [he] at this ⊢
  exact this

/-! Powers by squares; inverses -/
theorem raise_loop (a0 n0 : Int) : ∀ (k a n p : Nat), a < 256 → p < 256 → n < 2 ^ k → n < 2 ^ 62 → f27.at1 a0 n0 a n p (.int .u8 ((gm p (gp a n) : Nat) : Int)) [] := by
  intro k
  induction k with
  | zero =>
    intro a n p ha hp hn _
    obtain rfl : n = 0 := by simpa using hn
    exact cst (f27.s3 (by simp)) (by simp [gp, gm_one _ hp]) rfl
  | succ k ih =>
    intro a n p ha hp hn hn2
    by_cases h0 : n = 0
    · subst h0
      exact cst (f27.s3 (by simp)) (by simp [gp, gm_one _ hp]) rfl
    have hk : n / 2 < 2 ^ k := by rw [Nat.pow_succ] at hn; omega
    have e : (n : Int) / 2 = ((n / 2 : Nat) : Int) := by simp
    by_cases h1 : n % 2 = 1
    · refine f27.s2 (r1 := (gm p a : Nat)) (r2 := (gm a a : Nat)) (by simp; omega) (by omega) (by simp; omega) (mul_ok hp ha) (mul_ok ha ha) (by omega) ?_
      rw [e]
      refine cst (ih (gm a a) (n / 2) (gm p a) (gm_lt ha) (gm_lt hp) hk (by omega)) ?_ rfl
      rw [gp_sq ha, gm_assoc _ hp _ ha _ (gp_lt _)]
      have : gm a (gp a (2 * (n / 2))) = gp a (1 + 2 * (n / 2)) := by rw [gp_add ha, gp_one ha]
      rw [this, show 1 + 2 * (n / 2) = n by omega]
    · refine f27.s4 (r1 := (gm a a : Nat)) (by simp; omega) (by omega) (by simp; omega) (mul_ok ha ha) (by omega) ?_
      rw [e]
      refine cst (ih (gm a a) (n / 2) p (gm_lt ha) hp hk (by omega)) ?_ rfl
      rw [gp_sq ha, show 2 * (n / 2) = n by omega]
theorem raise_ok {a n : Nat} (ha : a < 256) (hn : n < 2 ^ 62) : Pure Try.prog 27 [.int .u8 a, .int .i64 n] (.int .u8 (gp a n)) := by
  refine f27.ok (f27.s1 ?_)
  refine cst (raise_loop a n 62 a n 1 ha (by decide) hn hn) ?_ rfl
  rw [gm_comm _ (by decide) _ (gp_lt _), gm_one _ (gp_lt _)]

theorem inv_ok {a : Nat} (ha : a < 256) : Pure Try.prog 14 [.int .u8 a] (.tuple #[.int .u8 (if a = 0 then 0 else inv a : Nat), .int .i64 (if a = 0 then 1 else 0)]) := by
  refine f14.ok ?_
  by_cases h : a = 0
  · subst h; exact f14.s1 (by simp)
  · refine cst (f14.s2 (r1 := (inv a : Nat)) (by simp; exact h) (raise_ok ha (by decide))) (by simp [h]) rfl
theorem div_ok {a b : Nat} (ha : a < 256) (hb : b < 256) : Pure Try.prog 16 [.int .u8 a, .int .u8 b] (.tuple #[.int .u8 (gm a (if b = 0 then 0 else inv b) : Nat), .int .i64 (if b = 0 then 1 else 0)]) := by
  refine f16.ok (f16.s1 (inv_ok hb) (mul_ok ha ?_))
  split
  · decide
  · exact inv_lt _

theorem rinv_loop (a : Nat) (ha : a < 256) : ∀ (k i : Nat), i + k = 256 → 0 < i → (∀ j, 0 < j → j < i → gm a j ≠ 1) → f15.at1 a (i : Nat) (.tuple #[.int .u8 (if a = 0 then 0 else inv a : Nat), .int .i64 (if a = 0 then 1 else 0)]) [] := by
  intro k
  induction k with
  | zero =>
    intro i hi h0 hno
    obtain rfl : i = 256 := by omega
    have : a = 0 := by
      refine Classical.byContradiction fun h => ?_
      have h1 := mul_inv a ha h
      refine hno (inv a) ?_ (inv_lt a) h1
      rcases Nat.eq_zero_or_pos (inv a) with e | e
      · rw [e, gm_zero] at h1; cases h1
      · exact e
    subst this
    exact f15.s3 (by simp)
  | succ k ih =>
    intro i hi h0 hno
    have e1 : (i : Int) + 1 = ((i + 1 : Nat) : Int) := by simp
    have e2 : wrapE .u8 (i : Int) = ((i : Nat) : Int) := by rw [w8, Nat.mod_eq_of_lt (by omega)]
    by_cases h1 : gm a i = 1
    · refine cst (f15.s2 (r1 := (gm a i : Nat)) (by simp; omega) (by rw [e2]; exact rmul_ok ha (by omega)) (by simp [h1])) ?_ rfl
      have hz : a ≠ 0 := by rintro rfl; rw [gm_comm _ (by decide) _ (by omega), gm_zero] at h1; cases h1
      rw [e2, inv_uniq ha (by omega) h1]
      simp [hz, ← inv_uniq ha (by omega) h1]
    · refine f15.s4 (r1 := (gm a i : Nat)) (by simp; omega) (by rw [e2]; exact rmul_ok ha (by omega)) (by simp; omega) (by omega) ?_
      rw [e1]
      refine ih (i + 1) (by omega) (by omega) fun j hj hj2 => ?_
      by_cases hji : j = i
      · subst hji; exact h1
      · exact hno j hj (by omega)
theorem rinv_ok {a : Nat} (ha : a < 256) : Pure Try.prog 15 [.int .u8 a] (.tuple #[.int .u8 (if a = 0 then 0 else inv a : Nat), .int .i64 (if a = 0 then 1 else 0)]) :=
  f15.ok (f15.s1 (rinv_loop a ha 255 1 rfl (by decide) (fun j h1 h2 => by omega)))
end Go.Proofs.Ytgedgcbljfmpaaa.Abs.Seg07

namespace Go.Proofs.Ytgedgcbljfmpaaa.Abs.Seg07
open Go Go.RowKit Go.Proofs Go.Proofs.Ytgedgcbljfmpaaa.Abs Go.Proofs.Ytgedgcbljfmpaaa.Abs.Gf

/-- The exponent's rest. -/
def rst (n : Int) : Nat := (n % 255).toNat
theorem rst_lt (n : Int) : rst n < 255 := by unfold rst; omega
theorem tmod_neg {n : Int} (h : Int.tmod n 255 < 0) : Int.tmod n 255 + 255 = (rst n : Int) := by
  unfold rst
  have := Int.tmod_eq_emod (a := n) (b := 255)
  split at this <;> omega
theorem tmod_pos {n : Int} (h : ¬ Int.tmod n 255 < 0) : Int.tmod n 255 = (rst n : Int) := by
  unfold rst
  have := Int.tmod_eq_emod (a := n) (b := 255)
  split at this <;> omega
theorem tmod_bd (n : Int) : -255 < Int.tmod n 255 ∧ Int.tmod n 255 < 255 := by
  have := Int.tmod_eq_emod (a := n) (b := 255)
  split at this <;> omega

theorem rest_ok (n : Int) : Pure Try.prog 26 [.int .i64 n] (.int .i64 (rst n : Nat)) := by
  refine f26.ok ?_
  have := tmod_bd n
  by_cases h : Int.tmod n 255 < 0
  · exact cst (f26.s1 (by simpa using h) (by omega)) (by rw [tmod_neg h]) rfl
  · exact cst (f26.s2 (by simpa using h)) (by rw [tmod_pos h]) rfl

theorem exp_loop (x0 : Int) (m : Nat) (hm : m < 255) : ∀ (k i : Nat), i + k = m → f11.at1 x0 (gp 3 i : Nat) (m : Nat) (i : Nat) (.int .u8 (gp 3 m : Nat)) [] := by
  intro k
  induction k with
  | zero => intro i hi; obtain rfl : i = m := by omega
            exact f11.s3 (by simp)
  | succ k ih =>
    intro i hi
    have e1 : (i : Int) + 1 = ((i + 1 : Nat) : Int) := by simp
    refine f11.s2 (r1 := (dbl (gp 3 i) : Nat)) (by simp; omega) (double_ok (gp_lt i)) (by omega) ?_
    rw [xor_u8 (gp_lt i) (dbl_lt _), e1]
    have := ih (i + 1) (by omega)
    rw [show gp 3 (i + 1) = t3 (gp 3 i) by rw [t3_eq]; rfl] at this
    exact this
theorem exp_ok (n : Int) : Pure Try.prog 11 [.int .i64 n] (.int .u8 (gp 3 (rst n) : Nat)) :=
  f11.ok (f11.s1 (rest_ok n) (exp_loop n (rst n) (rst_lt n) (rst n) 0 (by omega)))

theorem rexp_loop (x0 : Int) (m : Nat) (hm : m < 255) : ∀ (k i : Nat), i + k = m → f12.at1 x0 (m : Nat) (gp 3 i : Nat) (i : Nat) (.int .u8 (gp 3 m : Nat)) [] := by
  intro k
  induction k with
  | zero => intro i hi; obtain rfl : i = m := by omega
            exact f12.s4 (by simp)
  | succ k ih =>
    intro i hi
    have e1 : (i : Int) + 1 = ((i + 1 : Nat) : Int) := by simp
    refine f12.s3 (r1 := (gp 3 (i + 1) : Nat)) (by simp; omega) (rmul_ok (gp_lt i) (by decide)) (by omega) ?_
    rw [e1]
    exact ih (i + 1) (by omega)
theorem rexp_ok (n : Int) : Pure Try.prog 12 [.int .i64 n] (.int .u8 (gp 3 (rst n) : Nat)) := by
  refine f12.ok ?_
  have := tmod_bd n
  have hl := rexp_loop n (rst n) (rst_lt n) (rst n) 0 (by omega)
  by_cases h : Int.tmod n 255 < 0
  · refine f12.s1 (by simpa using h) (by omega) ?_
    rw [tmod_neg h]; exact hl
  · refine f12.s2 (by simpa using h) ?_
    rw [tmod_pos h]; exact hl

theorem log_loop (a : Nat) (ha : a < 256) (h0 : a ≠ 0) : ∀ (k i : Nat), i + k = lg a → f9.at1 a (i : Nat) (gp 3 i : Nat) (.tuple #[.int .i64 (lg a : Nat), .int .i64 0]) [] := by
  obtain ⟨l1, l2, l3⟩ := lg_spec ha h0
  intro k
  induction k with
  | zero =>
    intro i hi
    obtain rfl : i = lg a := by omega
    rw [l2]
    exact f9.s4 (by simp)
  | succ k ih =>
    intro i hi
    have e1 : (i : Int) + 1 = ((i + 1 : Nat) : Int) := by simp
    have hne := l3 i (by omega)
    refine f9.s3 (r1 := (dbl (gp 3 i) : Nat)) (by simp; omega) (by omega) (double_ok (gp_lt i)) ?_
    rw [xor_u8 (gp_lt i) (dbl_lt _), e1]
    have := ih (i + 1) (by omega)
    rw [show gp 3 (i + 1) = t3 (gp 3 i) by rw [t3_eq]; rfl] at this
    exact this
theorem log_ok {a : Nat} (ha : a < 256) : Pure Try.prog 9 [.int .u8 a] (.tuple #[.int .i64 (if a = 0 then 0 else lg a : Nat), .int .i64 (if a = 0 then 1 else 0)]) := by
  refine f9.ok ?_
  by_cases h : a = 0
  · subst h; exact f9.s1 (by simp)
  · refine cst (f9.s2 (by simpa using h) (log_loop a ha h (lg a) 0 (by omega))) (by simp [h]) rfl

theorem rlog_loop (a : Nat) (ha : a < 256) : ∀ (k i : Nat), i + k = 255 → (∀ j, j < i → gp 3 j ≠ a) → f10.at1 a (gp 3 i : Nat) (i : Nat) (.tuple #[.int .i64 (if a = 0 then 0 else lg a : Nat), .int .i64 (if a = 0 then 1 else 0)]) [] := by
  intro k
  induction k with
  | zero =>
    intro i hi hno
    obtain rfl : i = 255 := by omega
    have : a = 0 := by
      refine Classical.byContradiction fun h => ?_
      obtain ⟨l1, l2, _⟩ := lg_spec ha h
      exact hno _ l1 l2
    subst this
    exact f10.s3 (by simp)
  | succ k ih =>
    intro i hi hno
    have e1 : (i : Int) + 1 = ((i + 1 : Nat) : Int) := by simp
    by_cases h : gp 3 i = a
    · have hz : a ≠ 0 := by rw [← h]; exact gp_nz (by decide) (by decide) i
      refine cst (f10.s2 (by simp; omega) (by simp [h])) ?_ rfl
      have : lg a = i := by rw [← h]; exact lg_gp i (by omega)
      simp [hz, this]
    · refine f10.s4 (r1 := (gp 3 (i + 1) : Nat)) (by simp; omega) (by simp; omega) (rmul_ok (gp_lt i) (by decide)) (by omega) ?_
      rw [e1]
      refine ih (i + 1) (by omega) fun j hj => ?_
      by_cases hji : j = i
      · subst hji; exact h
      · exact hno j (by omega)
theorem rlog_ok {a : Nat} (ha : a < 256) : Pure Try.prog 10 [.int .u8 a] (.tuple #[.int .i64 (if a = 0 then 0 else lg a : Nat), .int .i64 (if a = 0 then 1 else 0)]) :=
  f10.ok (f10.s1 (rlog_loop a ha 255 0 rfl (fun j h => by omega)))

theorem awake_ok : Pure Try.prog 13 [] (.bool true) := by
  have k1 : inv 83 = 202 := by rw [← inv_fp (by decide)]; decide +kernel
  have k2 : lg 3 = 1 := by decide +kernel
  have k3 : gm 87 131 = 193 := by decide +kernel
  have i1 := inv_ok (a := 83) (by decide)
  have i2 := log_ok (a := 3) (by decide)
  have i3 := mul_ok (a := 87) (b := 131) (by decide) (by decide)
  have i4 := exp_ok 1
  refine f13.ok (cst (f13.s1 i1 i2 ?_ ?_ ?_ ?_ i3 ?_ i4) ?_ rfl)
  · rfl
  · rfl
  · simp [k1]
  · simp [k2]
  · simp [k3]
  · have : rst 1 = 1 := by decide
    rw [this]
    simp [gp_one]

theorem reckons_ok {a b : Nat} (ha : a < 256) (hb : b < 256) : Pure Try.prog 4 [.int .u8 a, .int .u8 b] (.bool true) := by
  have h7 : (if b = 0 then 0 else inv b) < 256 := by split; decide; exact inv_lt _
  refine f4.ok (cst (f4.s1 (inv_ok ha) (rinv_ok ha) (div_ok ha hb) (rinv_ok hb) awake_ok rfl (add_ok ha hb) ?_ (mul_ok ha hb) (rmul_ok ha hb) ?_ ?_ ?_ (rmul_ok ha h7) ?_) ?_ rfl)
  · rw [xor_u8 ha hb]; simp
  · simp
  · simp
  · simp
  · simp
  · simp

theorem logs_ok {a : Nat} (ha : a < 256) (n : Int) (hn : -9223372036854775808 ≤ n ∧ n ≤ 9223372036854775807) : Pure Try.prog 3 [.int .u8 a, .int .i64 n] (.bool true) := by
  have hz : gp 3 (rst n) ≠ 0 := gp_nz (by decide) (by decide) _
  have hb := tmod_bd n
  have hr : Int.tmod (Int.tmod n 255 + 255) 255 = (rst n : Int) := by
    by_cases h : Int.tmod n 255 < 0
    · rw [tmod_neg h, Int.tmod_eq_emod_of_nonneg (by omega)]
      have := rst_lt n
      omega
    · rw [tmod_pos h, Int.tmod_eq_emod_of_nonneg (by omega)]
      have := rst_lt n
      omega
  have l1 := lg_gp (rst n) (rst_lt n)
  by_cases h0 : a = 0
  · refine f3.ok (cst (f3.s5 (log_ok ha) (rlog_ok ha) ?_ ?_ (exp_ok n) (rexp_ok n) ?_ (exp_ok n) ?_ (exp_ok n) (log_ok (gp_lt _)) awake_ok rfl ?_ ?_ (by omega)) ?_ rfl)
    · simp
    · simp
    · simp
    · simpa using hz
    · simp [h0]
    · simp [hz]
    · rw [hr]; simp [hz, l1]
  · obtain ⟨k1, k2, _⟩ := lg_spec ha h0
    have e := exp_ok ((if a = 0 then 0 else lg a : Nat) : Int)
    refine f3.ok (cst (f3.s7 (log_ok ha) (rlog_ok ha) ?_ ?_ (exp_ok n) (rexp_ok n) ?_ (exp_ok n) ?_ (exp_ok n) (log_ok (gp_lt _)) awake_ok rfl ?_ e ?_ ?_ (by omega)) ?_ rfl)
    · simp
    · simp
    · simp
    · simpa using hz
    · simp [h0]
    · have : rst (lg a : Int) = lg a := by unfold rst; omega
      simp [h0, this, k2]
    · simp [hz]
    · rw [hr]; simp [hz, l1]
end Go.Proofs.Ytgedgcbljfmpaaa.Abs.Seg07
namespace Go.Proofs.Ytgedgcbljfmpaaa.Abs.Seg07
open Go Go.RowKit Go.Proofs Go.Proofs.Ytgedgcbljfmpaaa.Abs Go.Proofs.Ytgedgcbljfmpaaa.Abs.Gf
theorem wf_u8 {a : Int} (h : (Lit.int .u8 a).wf = true) : ∃ n : Nat, a = (n : Int) ∧ n < 256 := by
  have h2 : 0 ≤ a ∧ a ≤ 255 := by simpa [Lit.wf, IntKind.min, IntKind.max, IntKind.bits, IntKind.signed] using h
  exact ⟨a.toNat, by omega, by omega⟩
theorem wf_i64 {a : Int} (h : (Lit.int .i64 a).wf = true) : -9223372036854775808 ≤ a ∧ a ≤ 9223372036854775807 := by
  simpa [Lit.wf, IntKind.min, IntKind.max, IntKind.bits, IntKind.signed] using h
theorem logs_row (a0 : Int) (w0 : (Lit.int .u8 a0).wf = true) (a1 : Int) (w1 : (Lit.int .i64 a1).wf = true) : Pure Try.prog 3 [.int .u8 a0, .int .i64 a1] (.bool true) := by
  obtain ⟨n, rfl, hn⟩ := wf_u8 w0
  exact logs_ok hn a1 (wf_i64 w1)
theorem reckons_row (a0 : Int) (w0 : (Lit.int .u8 a0).wf = true) (a1 : Int) (w1 : (Lit.int .u8 a1).wf = true) : Pure Try.prog 4 [.int .u8 a0, .int .u8 a1] (.bool true) := by
  obtain ⟨n, rfl, hn⟩ := wf_u8 w0
  obtain ⟨m, rfl, hm⟩ := wf_u8 w1
  exact reckons_ok hn hm
end Go.Proofs.Ytgedgcbljfmpaaa.Abs.Seg07

namespace Go.Proofs.Ytgedgcbljfmpaaa.Abs.Seg07
open Go Go.RowKit Go.Proofs Go.Proofs.Ytgedgcbljfmpaaa.Abs Go.Proofs.Ytgedgcbljfmpaaa.Abs.Gf

/-! The tables -/
def tbl : Nat → Nat → Nat → List Nat → List Nat
  | 0, n, a, l => l.set n a
  | k + 1, n, a, l => tbl k (n + 1) (dbl a ^^^ a) ((l.set n a).set (256 + a) n)
def tab2 : List Nat := tbl 255 0 1 (List.replicate 512 0)
theorem tab2_len : tab2.length = 512 := by decide +kernel
theorem tbl_loop (z : List Int) (hz : z.length = 512) : ∀ (k n a : Nat) (l : List Nat), n + k = 255 → a < 256 → l.length = 512 → f24.at1 (n : Nat) (a : Nat) z (ii l) (.agg (Row.cells (.ints .i64 (ii (tbl k n a l)))).toArray) [] := by
  intro k
  induction k with
  | zero =>
    intro n a l hn ha hl
    have e1 : ∀ y : Nat, 0 + (Int.toNat (y : Int)) * 1 = y := fun y => by simp
    have hlen : Row.len (.ints .i64 (List.set (ii l) (0 + (Int.toNat (n : Int)) * 1) (a : Int))) = 512 := by simp [Row.len, ii_len, hl]
    refine cst (f24.s3 (by omega) (by omega) (by rw [e1, ii_len, hl]; omega) (by simp; omega) ⟨rfl, hlen⟩ (by rw [hlen]; simp [Row.len, hz]) (by simp [Row.cells, ii, hl])) ?_ rfl
    rw [e1, ii_set, tbl]
  | succ k ih =>
    intro n a l hn ha hl
    have e1 : ∀ y : Nat, 0 + (Int.toNat (y : Int)) * 1 = y := fun y => by simp
    have e2 : ∀ y : Nat, 256 + (Int.toNat (y : Int)) * 1 = 256 + y := fun y => by simp
    have nx := ih (n + 1) (dbl a ^^^ a) ((l.set n a).set (256 + a) n) (by omega) (xlt (dbl_lt a) ha) (by simp [hl])
    refine f24.s2 (by omega) (by omega) (by rw [e1, ii_len, hl]; omega) (by simp; omega) (by omega) (by rw [e1, e2, List.length_set, ii_len, hl]; omega) (by omega) (double_ok ha) ?_
    rw [e1, e2, ii_set, ii_set, xor_u8 (dbl_lt a) ha, show (n : Int) + 1 = ((n + 1 : Nat) : Int) by simp, tbl]
    exact nx
theorem table_ok : Pure Try.prog 24 [] (.agg (Row.cells (.ints .i64 (ii tab2))).toArray) := by
  have h := tbl_loop (List.replicate 512 (0 : Int)) (by simp) 254 1 (dbl 1 ^^^ 1) (((List.replicate 512 0).set 0 1).set 257 0) rfl (xlt (dbl_lt 1) (by decide)) (by simp)
  have hd := double_ok (n := 1) (by decide)
  have e : List.set (List.set (List.replicate 512 (0 : Int)) 0 1) 257 0 = ii (((List.replicate 512 0).set 0 1).set 257 0) := by
    rw [ii_rep]
    have a1 : List.set (ii (List.replicate 512 0)) 0 1 = ii ((List.replicate 512 0).set 0 1) := ii_set (List.replicate 512 0) 0 1
    rw [a1]
    exact ii_set _ 257 0
  have et : tab2 = tbl 254 1 (dbl 1 ^^^ 1) (((List.replicate 512 0).set 0 1).set 257 0) := by
    unfold tab2; rw [show (255 : Nat) = 254 + 1 from rfl, tbl]
  have ex : Go.bits .xor .u8 ((dbl 1 : Nat) : Int) 1 = ((dbl 1 ^^^ 1 : Nat) : Int) := xor_u8 (b := 1) (dbl_lt 1) (by decide)
  rw [et]
  refine f24.ok (f24.s1 (by simp) (by simp) hd ?_)
  rw [e, ex]
  exact h
theorem tab_pow : ∀ i, i < 256 → tab2.getD i 0 = gp 3 (i % 255) := by decide +kernel
theorem tab_log : ∀ i, i < 256 → tab2.getD (256 + i) 0 = if i = 0 then 0 else lg i := by decide +kernel
theorem tables_ok {a : Nat} (ha : a < 256) : Pure Try.prog 8 [.int .u8 a] (.bool true) := by
  have e1 : ∀ y : Nat, 0 + (Int.toNat (y : Int)) * 1 = y := fun y => by simp
  have e2 : ∀ y : Nat, 256 + (Int.toNat (y : Int)) * 1 = 256 + y := fun y => by simp
  have hr : rst (a : Int) = a % 255 := by unfold rst; omega
  have hx := rexp_ok (a : Int)
  rw [hr] at hx
  have hl := rlog_ok ha
  have hz : Row.len (.ints .i64 (ii tab2)) = 512 := by simp [Row.len, ii_len, tab2_len]
  have ht1 := tab_pow a ha
  have ht2 := tab_log a ha
  have hg := gp_lt (a := 3) (a % 255)
  by_cases h : a = 0
  · rw [if_pos h, if_pos h] at hl
    rw [if_pos h] at ht2
    refine f8.ok (cst (f8.s1 table_ok (by rw [hz]; simp [Row.len]) (by simp [Row.cells, ii, tab2_len]) hl (by decide) awake_ok rfl (by omega) (by rw [e1, ii_len, tab2_len]; omega) (by omega) hx (by omega) (by rw [e1, ii_rd, ht1]; simp) (by rw [e2, ii_len, tab2_len]; omega)) ?_ rfl)
    rw [e2, ii_rd, ht2]; rfl
  · rw [if_neg h, if_neg h] at hl
    rw [if_neg h] at ht2
    refine f8.ok (cst (f8.s2 table_ok (by rw [hz]; simp [Row.len]) (by simp [Row.cells, ii, tab2_len]) hl (by decide) awake_ok rfl (by omega) (by rw [e1, ii_len, tab2_len]; omega) (by omega) hx (by omega) (by rw [e1, ii_rd, ht1]; simp) (by rw [e2, ii_len, tab2_len]; omega)) ?_ rfl)
    rw [e2, ii_rd, ht2]; simp
theorem tables_row (a : Int) (w : (Lit.int .u8 a).wf = true) : FnOk Try.prog 8 [.int .u8 a] [] (.bool true) [] := by
  obtain ⟨n, rfl, hn⟩ := wfu8 w
  exact tables_ok hn
end Go.Proofs.Ytgedgcbljfmpaaa.Abs.Seg07

