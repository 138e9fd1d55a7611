/- CRC-32 and frames: what the functions of crc, of frame and of their references give. -/
import Derived.Test.YtnecampknnjjiaaLbSeg2
set_option linter.unusedVariables false
set_option linter.unusedSimpArgs false
set_option maxRecDepth 100000
/- Plain facts on CRC-32: the register behind bits 0 is a linear map, and a text comes in as one number. -/
namespace Go.Proofs.Ytnecampknnjjiaa.Abs.Crc

def poly : Nat := 3988292384
def M : Nat := 4294967295
/-- The register behind a bit 0. -/
def z (r : Nat) : Nat := (r / 2) ^^^ (if r % 2 = 1 then poly else 0)
def zk : Nat → Nat → Nat
  | 0, r => r
  | k + 1, r => zk k (z r)

theorem x4 (a b c d : Nat) : (a ^^^ b) ^^^ (c ^^^ d) = (a ^^^ c) ^^^ (b ^^^ d) := by
  rw [Nat.xor_assoc, Nat.xor_assoc, ← Nat.xor_assoc b c d, Nat.xor_comm b c, Nat.xor_assoc c b d]
theorem xlt {a b : Nat} (ha : a < 4294967296) (hb : b < 4294967296) : a ^^^ b < 4294967296 := Nat.xor_lt_two_pow (n := 32) ha hb
theorem xor_mod2 (a b : Nat) : (a ^^^ b) % 2 = (a % 2) ^^^ (b % 2) := Nat.xor_mod_two_pow (n := 1)
theorem xor_div2 (a b : Nat) : (a ^^^ b) / 2 = a / 2 ^^^ b / 2 := Nat.xor_div_two
theorem xor_right {a b c : Nat} (h : a ^^^ b = a ^^^ c) : b = c := by
  have := congrArg (a ^^^ ·) h
  simpa [← Nat.xor_assoc] using this

theorem z_xor (a b : Nat) : z (a ^^^ b) = z a ^^^ z b := by
  unfold z
  rw [xor_div2, xor_mod2, x4]
  congr 1
  rcases Nat.mod_two_eq_zero_or_one a with p | p <;> rcases Nat.mod_two_eq_zero_or_one b with q | q <;> simp [p, q]
theorem z_lt {r : Nat} (h : r < 4294967296) : z r < 4294967296 := by
  unfold z
  refine xlt (by omega) ?_
  split <;> decide
theorem z_even (r : Nat) : z (2 * r) = r := by
  unfold z
  have h1 : 2 * r / 2 = r := by omega
  have h2 : 2 * r % 2 = 0 := by omega
  rw [h1, h2]; simp
theorem z_zero : z 0 = 0 := rfl
theorem z_inj {r : Nat} (h : r < 4294967296) (hz : z r = 0) : r = 0 := by
  unfold z at hz
  split at hz
  · have h1 : r / 2 = poly := by
      have := congrArg (· ^^^ poly) hz
      simpa [Nat.xor_assoc] using this
    have : poly = 3988292384 := rfl
    omega
  · simp at hz; omega

theorem zk_xor : ∀ (k a b : Nat), zk k (a ^^^ b) = zk k a ^^^ zk k b
  | 0, _, _ => rfl
  | k + 1, a, b => by unfold zk; rw [z_xor, zk_xor k]
theorem zk_lt : ∀ (k : Nat) {r : Nat}, r < 4294967296 → zk k r < 4294967296
  | 0, _, h => h
  | k + 1, _, h => zk_lt k (z_lt h)
theorem zk_zero : ∀ k, zk k 0 = 0
  | 0 => rfl
  | k + 1 => by unfold zk; rw [z_zero, zk_zero k]
theorem zk_add : ∀ (a b r : Nat), zk (a + b) r = zk b (zk a r)
  | 0, b, r => by rw [Nat.zero_add]; rfl
  | a + 1, b, r => by
    rw [show a + 1 + b = (a + b) + 1 by omega]
    show zk (a + b) (z r) = zk b (zk a (z r))
    exact zk_add a b (z r)
theorem zk_pow : ∀ (k r : Nat), zk k (2 ^ k * r) = r
  | 0, r => by simp [zk]
  | k + 1, r => by
    unfold zk
    rw [show 2 ^ (k + 1) * r = 2 * (2 ^ k * r) by rw [Nat.pow_succ, Nat.mul_comm (2 ^ k) 2, Nat.mul_assoc], z_even, zk_pow k]
theorem zk_inj : ∀ (k : Nat) {r : Nat}, r < 4294967296 → zk k r = 0 → r = 0
  | 0, _, _, hz => hz
  | k + 1, _, h, hz => z_inj h (zk_inj k (z_lt h) hz)

/-- A bit comes in. -/
def st (r b : Nat) : Nat := z (r ^^^ b % 2)
theorem low_xor (c : Nat) : c % 2 ^^^ 2 * (c / 2) = c := by
  apply Nat.eq_of_testBit_eq
  intro i
  rw [Nat.testBit_xor]
  cases i with
  | zero => simp [Nat.testBit_zero]
  | succ i =>
    have h1 : (c % 2).testBit (i + 1) = false := Nat.testBit_lt_two_pow (Nat.lt_of_lt_of_le (Nat.mod_lt _ (by decide)) (by
      rw [Nat.pow_succ]; have := Nat.two_pow_pos i; omega))
    rw [h1, Nat.testBit_succ, Nat.testBit_succ]
    simp
/-- Bits come in, the lowest first. -/
def bitsR : Nat → Nat → Nat → Nat
  | 0, r, _ => r
  | k + 1, r, c => bitsR k (st r c) (c / 2)
theorem bitsR_eq : ∀ (k r c : Nat), c < 2 ^ k → bitsR k r c = zk k (r ^^^ c)
  | 0, r, c, h => by
    obtain rfl : c = 0 := by simpa using h
    simp [bitsR, zk]
  | k + 1, r, c, h => by
    unfold bitsR zk
    rw [bitsR_eq k _ _ (by rw [Nat.pow_succ] at h; omega)]
    congr 1
    unfold st
    conv => lhs; rhs; rw [← z_even (c / 2)]
    rw [← z_xor, Nat.xor_assoc, low_xor]

/-- Four bits. -/
def tab (i : Nat) : Nat := zk 4 i
theorem mod16_xor (c : Nat) : c % 16 ^^^ 16 * (c / 16) = c := by
  apply Nat.eq_of_testBit_eq
  intro i
  rw [Nat.testBit_xor, show (16 : Nat) = 2 ^ 4 from rfl, Nat.testBit_mod_two_pow, Nat.testBit_two_pow_mul, Nat.testBit_div_two_pow]
  by_cases h : i < 4
  · have : ¬ 4 ≤ i := by omega
    simp [h, this]
  · have h2 : 4 ≤ i := by omega
    have : 4 + (i - 4) = i := by omega
    have h3 : i - 4 + 4 = i := by omega
    simp [h, h2, this, h3]
theorem nib (x : Nat) : zk 4 x = x / 16 ^^^ tab (x % 16) := by
  conv => lhs; rw [← mod16_xor x]
  rw [zk_xor, show 16 * (x / 16) = 2 ^ 4 * (x / 16) from rfl, zk_pow, Nat.xor_comm]
  rfl
theorem nib1 (r c : Nat) : r / 16 ^^^ tab ((r ^^^ c) % 16) = zk 4 (r ^^^ c % 16) := by
  rw [nib]
  have h1 : (r ^^^ c % 16) / 16 = r / 16 := by
    rw [show (16 : Nat) = 2 ^ 4 from rfl, Nat.xor_div_two_pow, Nat.div_eq_of_lt (Nat.mod_lt c (Nat.two_pow_pos 4)), Nat.xor_zero]
  have h2 : (r ^^^ c % 16) % 16 = (r ^^^ c) % 16 := by
    rw [show (16 : Nat) = 2 ^ 4 from rfl, Nat.xor_mod_two_pow, Nat.xor_mod_two_pow, Nat.mod_mod]
  rw [h1, h2]
/-- A byte, by halves. -/
theorem halves (r c : Nat) (hc : c < 256) : let r1 := r / 16 ^^^ tab ((r ^^^ c) % 16); r1 / 16 ^^^ tab ((r1 ^^^ c / 16) % 16) = zk 8 (r ^^^ c) := by
  intro r1
  have h1 : r1 = zk 4 (r ^^^ c % 16) := nib1 r c
  rw [nib1, Nat.mod_eq_of_lt (show c / 16 < 16 by omega), h1]
  have : c / 16 = zk 4 (16 * (c / 16)) := (zk_pow 4 (c / 16)).symm
  conv => lhs; rw [this]
  rw [← zk_xor, Nat.xor_assoc, mod16_xor, ← zk_add]

/-- The register behind a text. -/
def regT (r : Nat) (l : List Nat) : Nat := l.foldl (fun r c => zk 8 (r ^^^ c)) r
def num : List Nat → Nat
  | [] => 0
  | c :: l => c ^^^ 256 * num l
theorem num_cons (c : Nat) (hc : c < 256) (n : Nat) : c ^^^ 256 * n = c + 256 * n := by
  have h : ∀ i, (c ^^^ 256 * n).testBit i = (256 * n + c).testBit i := by
    intro i
    rw [Nat.testBit_xor, show (256 : Nat) = 2 ^ 8 from rfl, Nat.testBit_two_pow_mul_add n (by simpa using hc), Nat.testBit_two_pow_mul]
    by_cases h : i < 8
    · have : ¬ 8 ≤ i := by omega
      simp [h, this]
    · simp only [h, if_false]
      rw [Nat.testBit_lt_two_pow (Nat.lt_of_lt_of_le hc (by rw [show (256 : Nat) = 2 ^ 8 from rfl]; exact Nat.pow_le_pow_right (by decide) (by omega)))]
      simp; omega
  rw [Nat.add_comm]
  exact Nat.eq_of_testBit_eq h
theorem num_lt : ∀ (l : List Nat), (∀ x ∈ l, x < 256) → num l < 2 ^ (8 * l.length)
  | [], _ => by simp [num]
  | c :: l, h => by
    have h1 := num_lt l fun x hx => h x (by simp [hx])
    have h2 := h c (by simp)
    rw [num, num_cons c h2, List.length_cons, show 8 * (l.length + 1) = 8 * l.length + 8 by omega, Nat.pow_add]
    omega
theorem regT_num : ∀ (l : List Nat) (r : Nat), (∀ x ∈ l, x < 256) → regT r l = zk (8 * l.length) (r ^^^ num l)
  | [], r, _ => by simp [regT, num, zk]
  | c :: l, r, h => by
    have e : regT r (c :: l) = regT (zk 8 (r ^^^ c)) l := rfl
    rw [e, regT_num l _ fun x hx => h x (by simp [hx]), List.length_cons, show 8 * (l.length + 1) = 8 + 8 * l.length by omega, zk_add]
    congr 1
    have : num l = zk 8 (256 * num l) := (zk_pow 8 (num l)).symm
    conv => lhs; rw [this]
    rw [← zk_xor, num, Nat.xor_assoc]
theorem num_inj : ∀ (l m : List Nat), l.length = m.length → (∀ x ∈ l, x < 256) → (∀ x ∈ m, x < 256) → num l = num m → l = m
  | [], [], _, _, _, _ => rfl
  | [], _ :: _, h, _, _, _ => by simp at h
  | _ :: _, [], h, _, _, _ => by simp at h
  | c :: l, d :: m, h, h1, h2, e => by
    rw [num, num, num_cons c (h1 c (by simp)), num_cons d (h2 d (by simp))] at e
    have hc := h1 c (by simp)
    have hd := h2 d (by simp)
    have e1 : c = d := by omega
    have e2 : num l = num m := by omega
    rw [e1, num_inj l m (by simpa using h) (fun x hx => h1 x (by simp [hx])) (fun x hx => h2 x (by simp [hx])) e2]

theorem regT_app (r : Nat) (l m : List Nat) : regT r (l ++ m) = regT (regT r l) m := by simp [regT]
theorem regT_lt : ∀ (l : List Nat) {r : Nat}, (∀ x ∈ l, x < 256) → r < 4294967296 → regT r l < 4294967296
  | [], _, _, h => h
  | c :: l, r, hl, h => by
    have e : regT r (c :: l) = regT (zk 8 (r ^^^ c)) l := rfl
    rw [e]
    exact regT_lt l (fun x hx => hl x (by simp [hx])) (zk_lt 8 (xlt h (by have := hl c (by simp); omega)))
theorem regT_xor : ∀ (l m : List Nat) (r s : Nat), l.length = m.length → regT (r ^^^ s) (List.zipWith (· ^^^ ·) l m) = regT r l ^^^ regT s m
  | [], [], r, s, _ => rfl
  | [], _ :: _, _, _, h => by simp at h
  | _ :: _, [], _, _, h => by simp at h
  | c :: l, d :: m, r, s, h => by
    have e : ∀ (r c : Nat) (l : List Nat), regT r (c :: l) = regT (zk 8 (r ^^^ c)) l := fun _ _ _ => rfl
    simp only [List.zipWith_cons_cons, e]
    rw [x4, zk_xor, regT_xor l m _ _ (by simpa using h)]
theorem regT_zeros : ∀ (n r : Nat), regT r (List.replicate n 0) = zk (8 * n) r
  | 0, r => rfl
  | n + 1, r => by
    have e : regT r (List.replicate (n + 1) 0) = regT (zk 8 (r ^^^ 0)) (List.replicate n 0) := rfl
    rw [e, regT_zeros n, Nat.xor_zero, ← zk_add]
    congr 1
    omega
theorem regT_split (r : Nat) (l : List Nat) : regT r l = zk (8 * l.length) r ^^^ regT 0 l := by
  have h := regT_xor (List.replicate l.length 0) l r 0 (by simp)
  have e : List.zipWith (· ^^^ ·) (List.replicate l.length 0) l = l := by
    have : ∀ l : List Nat, List.zipWith (· ^^^ ·) (List.replicate l.length 0) l = l := by
      intro l
      induction l with
      | nil => rfl
      | cons c l ih => simp [List.replicate_succ, ih]
    exact this l
  rw [e, Nat.xor_zero, regT_zeros] at h
  exact h

def more (sum : Nat) (l : List Nat) : Nat := M ^^^ regT (M ^^^ sum) l
def sumT (l : List Nat) : Nat := more 0 l
def zeros (sum n : Nat) : Nat := M ^^^ zk (8 * n) (M ^^^ sum)
theorem M_lt : M < 4294967296 := by decide
theorem MM (x : Nat) : M ^^^ (M ^^^ x) = x := by rw [← Nat.xor_assoc, Nat.xor_self, Nat.zero_xor]
theorem M_sub {x : Nat} (h : x < 4294967296) : M - x = M ^^^ x := by
  have e : M = 2 ^ 32 - 1 := rfl
  apply Nat.eq_of_testBit_eq
  intro i
  rw [e, Nat.sub_sub, Nat.add_comm 1 x, Nat.testBit_two_pow_sub_succ (by simpa using h), Nat.testBit_xor, Nat.testBit_two_pow_sub_one]
  by_cases hi : i < 32
  · simp [hi]
  · have : x.testBit i = false := Nat.testBit_lt_two_pow (Nat.lt_of_lt_of_le h (by rw [show (4294967296 : Nat) = 2 ^ 32 from rfl]; exact Nat.pow_le_pow_right (by decide) (by omega)))
    simp [hi, this]
theorem more_lt {sum : Nat} {l : List Nat} (hl : ∀ x ∈ l, x < 256) (h : sum < 4294967296) : more sum l < 4294967296 := xlt M_lt (regT_lt l hl (xlt M_lt h))
theorem zeros_lt {sum : Nat} (n : Nat) (h : sum < 4294967296) : zeros sum n < 4294967296 := xlt M_lt (zk_lt _ (xlt M_lt h))
theorem more_app (s : Nat) (l m : List Nat) : more s (l ++ m) = more (more s l) m := by
  unfold more; rw [MM, regT_app]
theorem more_nil (s : Nat) : more s [] = s := by unfold more; rw [show regT (M ^^^ s) [] = M ^^^ s from rfl, MM]
theorem zeros_add (s a b : Nat) : zeros (zeros s a) b = zeros s (a + b) := by
  unfold zeros; rw [MM, ← zk_add, Nat.mul_add]
theorem zeros_zero (s : Nat) : zeros s 0 = s := by unfold zeros; rw [Nat.mul_zero]; exact MM s
theorem zeros_more (s n : Nat) : zeros s n = more s (List.replicate n 0) := by unfold zeros more; rw [regT_zeros]
theorem combine_eq (la lb : List Nat) : zeros (sumT la) lb.length ^^^ sumT lb ^^^ zeros 0 lb.length = sumT (la ++ lb) := by
  unfold sumT zeros more
  simp only [MM, Nat.xor_zero, regT_app]
  rw [regT_split M lb, regT_split (regT M la) lb]
  generalize zk (8 * lb.length) (regT M la) = A
  generalize zk (8 * lb.length) M = B
  generalize regT 0 lb = C
  rw [show M ^^^ A ^^^ (M ^^^ (B ^^^ C)) ^^^ (M ^^^ B) = (M ^^^ M) ^^^ (B ^^^ B) ^^^ (M ^^^ (A ^^^ C)) by ac_rfl]
  simp
theorem mix3 (a b c : List Nat) (h1 : a.length = b.length) (h2 : b.length = c.length) :
    sumT (List.zipWith (· ^^^ ·) (List.zipWith (· ^^^ ·) a b) c) = sumT a ^^^ sumT b ^^^ sumT c := by
  unfold sumT more
  rw [Nat.xor_zero]
  have h := regT_xor (List.zipWith (· ^^^ ·) a b) c (M ^^^ M) M (by simp [h1, h2])
  rw [regT_xor a b M M h1, Nat.xor_self, Nat.zero_xor] at h
  rw [h]
  generalize regT M a = A
  generalize regT M b = B
  generalize regT M c = C
  rw [show M ^^^ A ^^^ (M ^^^ B) ^^^ (M ^^^ C) = (M ^^^ M) ^^^ (M ^^^ (A ^^^ B ^^^ C)) by ac_rfl]
  simp

/-- A burst of at most 32 bits is told. -/
theorem burst {l m : List Nat} (hl : ∀ x ∈ l, x < 256) (hm : ∀ x ∈ m, x < 256) (hlen : l.length = m.length) {first B : Nat} (hB : B < 4294967296) (hf : first ≤ 8 * l.length) (hd : num m = num l ^^^ 2 ^ first * B) (r : Nat) (he : regT r m = regT r l) : m = l := by
  rw [regT_num m r hm, regT_num l r hl, ← hlen, hd, ← Nat.xor_assoc, zk_xor _ (r ^^^ num l)] at he
  have h0 : zk (8 * l.length) (2 ^ first * B) = 0 := by
    have := congrArg (zk (8 * l.length) (r ^^^ num l) ^^^ ·) he
    simpa [← Nat.xor_assoc] using this
  rw [show 8 * l.length = first + (8 * l.length - first) by omega, zk_add, zk_pow] at h0
  have hB0 := zk_inj _ hB h0
  subst hB0
  refine (num_inj _ _ hlen hl hm ?_).symm
  rw [hd]; simp

/-! Maps of registers, as told by what they make of each bit -/
structure Lin (f : Nat → Nat) : Prop where
  xor : ∀ a b, f (a ^^^ b) = f a ^^^ f b
  lt : ∀ {a}, a < 4294967296 → f a < 4294967296
theorem Lin.zero {f : Nat → Nat} (h : Lin f) : f 0 = 0 := by
  have := h.xor 0 0
  simpa using this
theorem lin_zk (k : Nat) : Lin (zk k) := ⟨zk_xor k, fun h => zk_lt k h⟩
def mat (f : Nat → Nat) : List Int := (List.range 32).map fun i => ((f (2 ^ i) : Nat) : Int)
end Go.Proofs.Ytnecampknnjjiaa.Abs.Crc

/- Plain facts on bits that are turned in a text. -/
namespace Go.Proofs.Ytnecampknnjjiaa.Abs.Crc
theorem pow_xor (k a b : Nat) : 2 ^ k * (a ^^^ b) = 2 ^ k * a ^^^ 2 ^ k * b := by
  have e : ∀ n : Nat, 2 ^ k * n = n <<< k := fun n => by rw [Nat.shiftLeft_eq, Nat.mul_comm]
  rw [e, e, e, Nat.shiftLeft_xor_distrib]
theorem num_set : ∀ (l : List Nat) (i d : Nat), i < l.length → num (l.set i (l.getD i 0 ^^^ d)) = num l ^^^ 2 ^ (8 * i) * d
  | [], i, d, h => by simp at h
  | c :: l, 0, d, _ => by
    simp only [List.set_cons_zero, List.getD_cons_zero, num, Nat.mul_zero, Nat.pow_zero, Nat.one_mul]
    ac_rfl
  | c :: l, i + 1, d, h => by
    have ih := num_set l i d (by simpa using h)
    simp only [List.set_cons_succ, List.getD_cons_succ, num]
    rw [ih, show (256 : Nat) = 2 ^ 8 from rfl, pow_xor, ← Nat.xor_assoc, ← Nat.mul_assoc, ← Nat.pow_add, show 8 + 8 * i = 8 * (i + 1) by omega]
def flip (l : List Nat) (p : Nat) : List Nat := l.set (p / 8) (l.getD (p / 8) 0 ^^^ 2 ^ (p % 8))
theorem flip_len (l : List Nat) (p : Nat) : (flip l p).length = l.length := by simp [flip]
theorem flip_num {l : List Nat} {p : Nat} (h : p < 8 * l.length) : num (flip l p) = num l ^^^ 2 ^ p := by
  unfold flip
  rw [num_set l (p / 8) (2 ^ (p % 8)) (by omega), ← Nat.pow_add, show 8 * (p / 8) + p % 8 = p by omega]
theorem flip_lt {l : List Nat} (hl : ∀ x ∈ l, x < 256) (p : Nat) : ∀ x ∈ flip l p, x < 256 := by
  intro x hx
  rcases List.mem_or_eq_of_mem_set hx with h | h
  · exact hl x h
  · subst h
    have h1 : l.getD (p / 8) 0 < 2 ^ 8 := by
      rw [List.getD_eq_getElem?_getD]
      cases hq : l[p / 8]? with
      | none => decide
      | some y => exact hl y (List.mem_of_getElem? hq)
    have h2 : 2 ^ (p % 8) < 2 ^ 8 := Nat.pow_lt_pow_right (by decide) (Nat.mod_lt _ (by decide))
    exact Nat.xor_lt_two_pow h1 h2
/-- What the rounds from k on make of a text. -/
structure Turned (l : List Nat) (first k : Nat) (m : List Nat) : Prop where
  len : m.length = l.length
  lt : ∀ x ∈ m, x < 256
  num : ∃ B, B < 2 ^ k ∧ num m = num l ^^^ 2 ^ first * B
theorem Turned.zero {l : List Nat} (hl : ∀ x ∈ l, x < 256) (first : Nat) : Turned l first 0 l := ⟨rfl, hl, 0, by simp, by simp⟩
theorem Turned.stay {l m : List Nat} {first k : Nat} (h : Turned l first k m) : Turned l first (k + 1) m := by
  obtain ⟨h1, h2, B, h3, h4⟩ := h
  exact ⟨h1, h2, B, by rw [Nat.pow_succ]; omega, h4⟩
theorem Turned.flip {l m : List Nat} {first k : Nat} (h : Turned l first k m) (hk : first + k < 8 * l.length) : Turned l first (k + 1) (flip m (first + k)) := by
  obtain ⟨h1, h2, B, h3, h4⟩ := h
  refine ⟨by rw [flip_len, h1], flip_lt h2 _, B ^^^ 2 ^ k, Nat.xor_lt_two_pow (by rw [Nat.pow_succ]; omega) (Nat.pow_lt_pow_right (by decide) (by omega)), ?_⟩
  rw [flip_num (by rw [h1]; exact hk), h4, pow_xor, ← Nat.pow_add, Nat.xor_assoc]
theorem Turned.told {l m : List Nat} {first : Nat} (hl : ∀ x ∈ l, x < 256) (h : Turned l first 32 m) (hf : first ≤ 8 * l.length) (r : Nat) (he : regT r m = regT r l) : m = l := by
  obtain ⟨h1, h2, B, h3, h4⟩ := h
  exact burst hl h2 h1.symm (by simpa using h3) hf h4 r he
theorem more_inj {s : Nat} {l m : List Nat} (h : more s m = more s l) : regT (M ^^^ s) m = regT (M ^^^ s) l := xor_right h
end Go.Proofs.Ytnecampknnjjiaa.Abs.Crc

namespace Go.Proofs.Ytnecampknnjjiaa.Abs.Seg11
open Go Go.RowKit Go.Proofs Go.Proofs.Ytnecampknnjjiaa.Abs Go.Proofs.Ytnecampknnjjiaa.Abs.Crc

theorem poly_eq : poly = 3988292384 := rfl
theorem M_eq : M = 4294967295 := rfl
def tabL : List Nat := [0, 498536548, 997073096, 651767980, 1994146192, 1802195444, 1303535960, 1342533948, 3988292384, 4027552580, 3604390888, 3412177804, 2607071920, 2262029012, 2685067896, 3183342108]
theorem tabL_tab : ∀ i, i < 16 → tabL.getD i 0 = tab i := by decide +kernel
theorem tabL_lt : ∀ x ∈ tabL, x < 4294967296 := by decide
theorem halves_ok : Pure Try.prog 30 [] (.agg (Row.cells (.ints .u32 (ii tabL))).toArray) :=
  f30.ok (f30.s1 rfl ⟨rfl, rfl⟩)

theorem and15 {n : Nat} (h : n < 4294967296) : Go.bits .and .u32 (n : Int) 15 = ((n % 16 : Nat) : Int) := by
  rw [show (15 : Int) = ((15 : Nat) : Int) from rfl, and_u32 h (by decide), show (15 : Nat) = 2 ^ 4 - 1 from rfl, Nat.and_two_pow_sub_one_eq_mod]
theorem xorM {n : Nat} (h : n < 4294967296) : Go.bits .xor .u32 4294967295 (n : Int) = ((M ^^^ n : Nat) : Int) := by
  rw [show (4294967295 : Int) = ((M : Nat) : Int) from rfl, xor_u32 M_lt h]
theorem zk8_lt {r c : Nat} (hr : r < 4294967296) (hc : c < 256) : zk 8 (r ^^^ c) < 4294967296 := zk_lt 8 (xlt hr (by omega))

theorem more_step {r c : Nat} (hr : r < 4294967296) (hc : c < 256) :
    let r1 := r / 16 ^^^ tab ((r ^^^ c) % 16)
    Go.bits .xor .u32 ((r : Int) / 2 ^ 4) (rd (ii tabL) (0 + (Int.toNat (Go.bits .and .u32 (Go.bits .xor .u32 (r : Int) (c : Int)) 15)) * 1)) = ((r1 : Nat) : Int) ∧ r1 < 4294967296 ∧ (r ^^^ c) < 4294967296 := by
  intro r1
  have h1 : r ^^^ c < 4294967296 := xlt hr (by omega)
  have h2 : tabL.getD ((r ^^^ c) % 16) 0 < 4294967296 := getD_lt_of tabL_lt (by decide)
  have h3 : r / 16 < 4294967296 := by omega
  have e : (r : Int) / 2 ^ 4 = ((r / 16 : Nat) : Int) := by simp
  refine ⟨?_, ?_, h1⟩
  · rw [xor_u32 hr (by omega), and15 h1, e, ii_rd, Nat.zero_add, Nat.mul_one, Int.toNat_natCast, xor_u32 h3 h2, tabL_tab _ (Nat.mod_lt _ (by decide))]
  · show _ ^^^ _ < _
    rw [← tabL_tab _ (Nat.mod_lt _ (by decide))]
    exact xlt h3 h2

theorem more_loop (x0 : Int) (s : ByteArray) : ∀ (k i r : Nat), i + k = s.size → s.size ≤ 9223372036854775807 → r < 4294967296 → f23.at1 x0 s r (s.size : Int) i (ii tabL) (.int .u32 ((M ^^^ regT r ((bys s).drop i) : Nat) : Int)) [] := by
  intro k
  induction k with
  | zero =>
    intro i r hi _ hr
    obtain rfl : i = s.size := by omega
    refine cst (f23.s3 (by simp)) ?_ rfl
    rw [xorM hr, List.drop_eq_nil_of_le (by rw [bys_len]; omega)]
    rfl
  | succ k ih =>
    intro i r hi hsz hr
    have hi2 : i < s.size := by omega
    have hc := bys_getD_lt s i
    obtain ⟨e1, h1, h2⟩ := more_step hr hc
    have e2 : ((((bys s).getD i 0 : Nat) : Int)) / 2 ^ 4 = (((bys s).getD i 0 / 16 : Nat) : Int) := by simp
    obtain ⟨e3, h3, h4⟩ := more_step (c := (bys s).getD i 0 / 16) h1 (by omega)
    have e4 : (i : Int) + 1 = ((i + 1 : Nat) : Int) := by simp
    refine f23.s2 (by simp; omega) (by omega) (by rw [bt_bys]; omega) ?_ ?_ ?_ ?_ (by omega) ?_
    · rw [bt_bys, xor_u32 hr (by omega), and15 h2]; omega
    · rw [bt_bys, xor_u32 hr (by omega), and15 h2, ii_len]; simp; exact Nat.mod_lt _ (by decide)
    · rw [bt_bys, e1, e2, xor_u32 h1 (by omega), and15 h4]; omega
    · rw [bt_bys, e1, e2, xor_u32 h1 (by omega), and15 h4, ii_len]; simp; exact Nat.mod_lt _ (by decide)
    · rw [bt_bys, e1, e2, e3, e4]
      have hh := Crc.halves r ((bys s).getD i 0) hc
      simp only at hh
      rw [hh]
      have := ih (i + 1) (zk 8 (r ^^^ (bys s).getD i 0)) (by omega) hsz (zk8_lt hr hc)
      rw [bys_drop hi2]
      exact this
theorem more_ok {x : Nat} (s : ByteArray) (hx : x < 4294967296) (hs : s.size ≤ 9223372036854775807) : Pure Try.prog 23 [.int .u32 x, .string s] (.int .u32 (more x (bys s) : Nat)) := by
  refine f23.ok (f23.s1 halves_ok rfl (by rfl) ?_)
  rw [xorM hx]
  exact more_loop x s s.size 0 _ (by omega) hs (xlt M_lt hx)
theorem sum_ok (s : ByteArray) (hs : s.size ≤ 9223372036854775807) : Pure Try.prog 24 [.string s] (.int .u32 (sumT (bys s) : Nat)) :=
  f24.ok (f24.s1 (more_ok (x := 0) s (by decide) hs))

theorem st_eq {r : Nat} (hr : r < 4294967296) (b : Nat) (hb : b < 2) : st r b = (if r % 2 = b then r / 2 else r / 2 ^^^ poly) := by
  unfold st z
  have h1 : b % 2 = b := Nat.mod_eq_of_lt hb
  rw [h1, xor_div2, xor_mod2, h1, Nat.div_eq_of_lt hb, Nat.xor_zero]
  rcases Nat.mod_two_eq_zero_or_one r with p | p <;> rcases (show b = 0 ∨ b = 1 by omega) with q | q <;> simp [p, q]
theorem st_lt {r : Nat} (hr : r < 4294967296) (b : Nat) : st r b < 4294967296 := z_lt (xlt hr (by omega))
theorem rstep_ok {r : Nat} (hr : r < 4294967296) (x : Int) : Pure Try.prog 36 [.int .u32 r, .int .i64 x] (.int .u32 (st r (x % 2).toNat : Nat)) := by
  have hm : (Int.tmod x 2 = 0) ↔ (x % 2).toNat = 0 := by rw [Int.tmod_eq_emod]; split <;> simp_all <;> omega
  have hd : (r : Int) / 2 = ((r / 2 : Nat) : Int) := by simp
  have hr2 : (r : Int) % 2 = ((r % 2 : Nat) : Int) := by simp
  refine f36.ok ?_
  rw [st_eq hr _ (by omega)]
  by_cases hb : (x % 2).toNat = 0
  · rw [hb]
    by_cases h0 : r % 2 = 0
    · refine cst (f36.s4 (by simp; exact hm.2 hb) (by omega) (by rw [hr2, h0]; rfl) (by omega)) ?_ rfl
      rw [if_pos h0, hd]
    · refine cst (f36.s2 (by simp; exact hm.2 hb) (by omega) (by rw [hr2]; simp; omega) (by omega)) ?_ rfl
      rw [if_neg h0, hd, show (3988292384 : Int) = ((poly : Nat) : Int) from rfl, xor_u32 (by omega) (by decide)]
  · have hb1 : (x % 2).toNat = 1 := by omega
    have hx : ¬ (Int.tmod x 2 = 0) := fun e => hb (hm.1 e)
    rw [hb1]
    by_cases h0 : r % 2 = 1
    · refine cst (f36.s3 (by simp; exact hx) (by omega) (by rw [hr2, h0]; rfl) (by omega)) ?_ rfl
      rw [if_pos h0, hd]
    · refine cst (f36.s1 (by simp; exact hx) (by omega) (by rw [hr2]; simp; omega) (by omega)) ?_ rfl
      rw [if_neg h0, hd, show (3988292384 : Int) = ((poly : Nat) : Int) from rfl, xor_u32 (by omega) (by decide)]

theorem reg_byte (x0 : Int) (s : ByteArray) (i : Nat) (hi : i < s.size) (hsz : s.size ≤ 9223372036854775807) {v : Value} {H : Heap} : ∀ (k j r c : Nat), j + k = 8 → c < 256 → r < 4294967296 →
    f34.at1 x0 s (bitsR k r c : Nat) ((i + 1 : Nat) : Int) v H → f34.at2 x0 s r i c j v H := by
  intro k
  induction k with
  | zero =>
    intro j r c hj _ hr hE
    obtain rfl : j = 8 := by omega
    exact f34.s5 (by simp) (by omega) hE
  | succ k ih =>
    intro j r c hj hc hr hE
    have hd : (c : Int) / 2 = ((c / 2 : Nat) : Int) := by simp
    have e1 : (j : Int) + 1 = ((j + 1 : Nat) : Int) := by simp
    have hs := rstep_ok hr ((c : Int) % 2)
    have e2 : (((c : Int) % 2) % 2).toNat = c % 2 := by omega
    rw [e2] at hs
    have e3 : st r (c % 2) = st r c := by unfold st; rw [Nat.mod_mod]
    rw [e3] at hs
    refine f34.s4 (by simp; omega) (by omega) hs (by omega) (by omega) ?_
    rw [hd, e1]
    exact ih (j + 1) (st r c) (c / 2) (by omega) (by omega) (st_lt hr c) hE
theorem reg_loop (x0 : Int) (s : ByteArray) (hsz : s.size ≤ 9223372036854775807) : ∀ (k i r : Nat), i + k = s.size → r < 4294967296 → f34.at1 x0 s r i (.int .u32 (regT r ((bys s).drop i) : Nat)) [] := by
  intro k
  induction k with
  | zero =>
    intro i r hi hr
    obtain rfl : i = s.size := by omega
    refine cst (f34.s3 (by simp)) ?_ rfl
    rw [List.drop_eq_nil_of_le (by rw [bys_len]; omega)]
    rfl
  | succ k ih =>
    intro i r hi hr
    have hi2 : i < s.size := by omega
    have hc := bys_getD_lt s i
    refine f34.s2 (by simp; omega) (by omega) (by rw [bt_bys]; omega) ?_
    rw [bt_bys]
    refine reg_byte x0 s i hi2 hsz 8 0 r _ rfl hc hr ?_
    rw [bitsR_eq 8 r _ hc]
    have := ih (i + 1) (zk 8 (r ^^^ (bys s).getD i 0)) (by omega) (zk8_lt hr hc)
    rw [bys_drop hi2]
    exact this
theorem reg_ok {r : Nat} (s : ByteArray) (hr : r < 4294967296) (hsz : s.size ≤ 9223372036854775807) : Pure Try.prog 34 [.int .u32 r, .string s] (.int .u32 (regT r (bys s) : Nat)) :=
  f34.ok (f34.s1 (reg_loop r s hsz s.size 0 r (by omega) hr))
theorem subM {n : Nat} (h : n < 4294967296) : wrapE .u32 (4294967295 - (n : Int)) = ((M ^^^ n : Nat) : Int) := by
  rw [← M_sub h, w32i, M_eq]
  omega
theorem rmore_ok {x : Nat} (s : ByteArray) (hx : x < 4294967296) (hs : s.size ≤ 9223372036854775807) : Pure Try.prog 31 [.int .u32 x, .string s] (.int .u32 (more x (bys s) : Nat)) := by
  refine f31.ok (cst (f31.s1 (by rw [subM hx]; exact reg_ok s (xlt M_lt hx) hs)) ?_ rfl)
  rw [subM (regT_lt _ (bys_lt s) (xlt M_lt hx))]
  rfl
theorem rsum_ok (s : ByteArray) (hs : s.size ≤ 9223372036854775807) : Pure Try.prog 26 [.string s] (.int .u32 (sumT (bys s) : Nat)) :=
  f26.ok (f26.s1 (rmore_ok (x := 0) s (by decide) hs))
end Go.Proofs.Ytnecampknnjjiaa.Abs.Seg11

namespace Go.Proofs.Ytnecampknnjjiaa.Abs.Seg11
open Go Go.RowKit Go.Proofs Go.Proofs.Ytnecampknnjjiaa.Abs Go.Proofs.Ytnecampknnjjiaa.Abs.Crc

theorem emp_eq : (⟨#[]⟩ : ByteArray) = ByteArray.empty := rfl
theorem size0 (s : ByteArray) : s = ⟨#[]⟩ ↔ s.size = 0 := by
  constructor
  · rintro rfl; rfl
  · intro h
    apply bys_inj
    have : (bys s).length = 0 := by rw [bys_len, h]
    rw [List.eq_nil_of_length_eq_zero this]
    rfl
def len3 (n : Nat) : List Nat := [n / 65536 % 256, n / 256 % 256, n % 256]
def oct4 (c : Nat) : List Nat := [c % 256, c / 256 % 256, c / 65536 % 256, c / 16777216 % 256]
theorem len3_lt (n : Nat) : ∀ x ∈ len3 n, x < 256 := by intro x hx; simp [len3] at hx; omega
theorem oct4_lt (n : Nat) : ∀ x ∈ oct4 n, x < 256 := by intro x hx; simp [oct4] at hx; omega
def headL (b : List Nat) : List Nat := 229 :: (len3 b.length ++ oct4 (sumT (len3 b.length ++ b)))
def wrapL (b : List Nat) : List Nat := headL b ++ b
theorem headL_lt (b : List Nat) : ∀ x ∈ headL b, x < 256 := by
  intro x hx
  simp only [headL, List.mem_cons, List.mem_append] at hx
  rcases hx with rfl | h | h
  · decide
  · exact len3_lt _ x h
  · exact oct4_lt _ x h
theorem wrapL_lt {b : List Nat} (hb : ∀ x ∈ b, x < 256) : ∀ x ∈ wrapL b, x < 256 := by
  intro x hx
  rcases List.mem_append.1 hx with h | h
  · exact headL_lt b x h
  · exact hb x h
theorem headL_len (b : List Nat) : (headL b).length = 8 := by simp [headL, len3, oct4]
theorem wrapL_len (b : List Nat) : (wrapL b).length = 8 + b.length := by simp [wrapL, headL_len]

def askE (n : Nat) : Nat := if n = 0 then 1 else if 32768 < n then 2 else 0
def wrapS (s : ByteArray) : ByteArray := if askE s.size = 0 then txt (wrapL (bys s)) else ByteArray.empty

theorem ask_ok (s : ByteArray) : Pure Try.prog 20 [.string s] (.int .i64 (askE s.size : Nat)) := by
  refine f20.ok ?_
  by_cases h0 : s.size = 0
  · refine cst (f20.s1 (by simp [size0, h0])) ?_ rfl
    simp [askE, h0]
  · by_cases h1 : 32768 < s.size
    · refine cst (f20.s2 (by simp [size0, h0]) (by simp; omega)) ?_ rfl
      simp [askE, h0, h1]
    · refine cst (f20.s3 (by simp [size0, h0]) (by simp; omega)) ?_ rfl
      simp [askE, h0, h1]
theorem div65536 (n : Nat) : (n : Int) / 2 ^ 16 = ((n / 65536 : Nat) : Int) := by simp
theorem div256 (n : Nat) : (n : Int) / 2 ^ 8 = ((n / 256 : Nat) : Int) := by simp
theorem div24 (n : Nat) : (n : Int) / 2 ^ 24 = ((n / 16777216 : Nat) : Int) := by simp
theorem length_ok (n : Nat) : Pure Try.prog 21 [.int .i64 n] (.string (txt (len3 n))) := by
  refine f21.ok (cst (f21.s1 (by simp)) ?_ rfl)
  rw [div65536, div256, w8n, w8n, w8n]
  rfl
theorem octets_ok (n : Nat) : Pure Try.prog 22 [.int .u32 n] (.string (txt (oct4 n))) := by
  refine f22.ok (cst (f22.s1 (by simp)) ?_ rfl)
  rw [div65536, div256, div24, w8n, w8n, w8n, w8n]
  rfl
theorem sumT_lt {l : List Nat} (hl : ∀ x ∈ l, x < 256) : sumT l < 4294967296 := more_lt hl (by decide)
theorem sum_app (l m : List Nat) : more (sumT l) m = sumT (l ++ m) := (more_app 0 l m).symm
theorem size_txt3 (n : Nat) : (txt (len3 n)).size = 3 := by rw [txt_size]; rfl
theorem size_txt4 (n : Nat) : (txt (oct4 n)).size = 4 := by rw [txt_size]; rfl
theorem wrap_eq (s : ByteArray) : ((txt [229] ++ txt (len3 s.size)) ++ txt (oct4 (sumT (len3 s.size ++ bys s)))) ++ s = txt (wrapL (bys s)) := by
  rw [← txt_app, ← txt_app]
  conv => lhs; rhs; rw [← txt_bys s]
  rw [← txt_app]
  congr 1
  rw [wrapL, headL, bys_len]
  simp
theorem bsz (a b : ByteArray) : (a ++ b).size = a.size + b.size := ByteArray.size_append
theorem wrap_ok (s : ByteArray) : Pure Try.prog 10 [.string s] (.tuple #[.string (wrapS s), .int .i64 (askE s.size : Nat)]) := by
  refine f10.ok ?_
  by_cases h : askE s.size = 0
  · have hs : s.size ≤ 32768 := by
      unfold askE at h
      split at h
      · omega
      · split at h <;> omega
    have e1 : ofInts (List.take 1 (List.drop 0 [229])) = txt [229] := rfl
    have e2 : (txt [229]).size = 1 := txt_size _
    have hm := more_ok (x := sumT (len3 s.size)) s (sumT_lt (len3_lt _)) (by omega)
    rw [sum_app] at hm
    have hsum := sum_ok (txt (len3 s.size)) (by rw [size_txt3]; decide)
    rw [bys_txt (len3_lt _)] at hsum
    refine cst (f10.s2 (ask_ok s) (by rw [h]; rfl) (length_ok s.size) (by decide) (by rw [e1, e2, size_txt3]; decide) hsum hm (octets_ok _) (by rw [e1, bsz, e2, size_txt3, size_txt4]; decide) (by rw [e1, bsz, bsz, e2, size_txt3, size_txt4]; omega)) ?_ rfl
    rw [e1, wrap_eq, h]
    simp [wrapS, h]
  · refine cst (f10.s1 (ask_ok s) (by simp; exact h)) ?_ rfl
    simp [wrapS, h]
    rfl
theorem long_ok (s : ByteArray) : Pure Try.prog 13 [.string s] (.int .i64 (if askE s.size = 0 then (8 + s.size : Nat) else 0 : Nat)) := by
  refine f13.ok ?_
  by_cases h : askE s.size = 0
  · have hs : s.size ≤ 32768 := by
      unfold askE at h
      split at h
      · omega
      · split at h <;> omega
    refine cst (f13.s2 (ask_ok s) (by rw [h]; rfl) (by omega)) ?_ rfl
    rw [if_pos h]; simp
  · refine cst (f13.s1 (ask_ok s) (by simp; exact h)) ?_ rfl
    rw [if_neg h]; rfl

theorem rwrap_ok (s : ByteArray) (hsz : s.size ≤ 9223372036854775807) : Pure Try.prog 12 [.string s] (.tuple #[.string (wrapS s), .int .i64 (askE s.size : Nat)]) := by
  refine f12.ok ?_
  by_cases h0 : s.size = 0
  · refine cst (f12.s1 (by simp [size0, h0])) ?_ rfl
    simp [askE, wrapS, h0]
    rfl
  · by_cases h1 : 32768 < s.size
    · refine cst (f12.s2 (by simp [size0, h0]) (by simp; omega)) ?_ rfl
      simp [askE, wrapS, h0, h1]
      rfl
    · have e1 : ofInts (List.take 3 (List.drop 0 [wrapE .u8 ((s.size : Int) / 65536), wrapE .u8 (((s.size : Int) / 256) % 256), wrapE .u8 ((s.size : Int) % 256)])) = txt (len3 s.size) := by
        have a1 : (s.size : Int) / 65536 = ((s.size / 65536 : Nat) : Int) := by simp
        have a2 : ((s.size : Int) / 256) % 256 = ((s.size / 256 % 256 : Nat) : Int) := by simp
        have a3 : (s.size : Int) % 256 = ((s.size % 256 : Nat) : Int) := by simp
        rw [a1, a2, a3, w8n, w8n, w8n, Nat.mod_mod, Nat.mod_mod]
        rfl
      have e0 : (⟨#[229]⟩ : ByteArray) = txt [229] := rfl
      have e2 : (txt [229]).size = 1 := txt_size _
      have hs := rsum_ok (txt (len3 s.size) ++ s) (by rw [bsz, size_txt3]; omega)
      rw [bys_app, bys_txt (len3_lt _)] at hs
      have e3 : ∀ c : Nat, ofInts (List.take 4 (List.drop 0 [wrapE .u8 (c : Int), wrapE .u8 ((c : Int) / 2 ^ 8), wrapE .u8 ((c : Int) / 2 ^ 16), wrapE .u8 ((c : Int) / 2 ^ 24)])) = txt (oct4 c) := by
        intro c
        rw [div65536, div256, div24, w8n, w8n, w8n, w8n]
        rfl
      refine cst (f12.s3 (by simp [size0, h0]) (by simp; omega) (by omega) (by omega) (by omega) (by omega) (by simp) (by rw [e1, size_txt3]; omega) (by rw [e1]; exact hs) (by rw [e1, e0, e2, size_txt3]; decide) (by simp) (by rw [e1, e0, e3, bsz, e2, size_txt3, size_txt4]; decide) (by rw [e1, e0, e3, bsz, bsz, e2, size_txt3, size_txt4]; omega)) ?_ rfl
      rw [e1, e3, e0, wrap_eq]
      simp [askE, wrapS, h0, h1]

/-! The front -/
def sizedN (l : List Nat) : Nat := 65536 * l.getD 1 0 + 256 * l.getD 2 0 + l.getD 3 0
def sizedE (l : List Nat) : Nat := if l.length = 0 then 4 else if l.getD 0 0 ≠ 229 then 3 else if l.length < 4 then 7 else if sizedN l = 0 ∨ 32768 < sizedN l then 3 else 0
theorem or3 {a b c : Nat} (ha : a < 256) (hb : b < 256) (hc : c < 256) : Go.bits .or .i64 (Go.bits .or .i64 (wrapE .i64 ((a : Int) * 2 ^ 16)) (wrapE .i64 ((b : Int) * 2 ^ 8))) (c : Int) = ((65536 * a + 256 * b + c : Nat) : Int) := by
  have e1 : (a : Int) * 2 ^ 16 = ((65536 * a : Nat) : Int) := by simp; omega
  have e2 : (b : Int) * 2 ^ 8 = ((256 * b : Nat) : Int) := by simp; omega
  rw [e1, e2, wrapE_i64 (by omega) (by omega), wrapE_i64 (by omega) (by omega), or_i64 (by omega) (by omega)]
  have h1 : 65536 * a ||| 256 * b = 65536 * a + 256 * b := by
    have := Nat.two_pow_add_eq_or_of_lt (i := 16) (b := 256 * b) (by omega) a
    simpa using this.symm
  have h2 : (65536 * a + 256 * b) ||| c = 65536 * a + 256 * b + c := by
    have := Nat.two_pow_add_eq_or_of_lt (i := 8) (b := c) (by omega) (256 * a + b)
    rw [show 2 ^ 8 * (256 * a + b) = 65536 * a + 256 * b by omega] at this
    exact this.symm
  rw [h1, or_i64 (by omega) (by omega), h2]
theorem sized_ok (s : ByteArray) (hsz : s.size ≤ 9223372036854775807) : Pure Try.prog 25 [.string s] (.tuple #[.int .i64 (if sizedE (bys s) = 0 then sizedN (bys s) else 0 : Nat), .int .i64 (sizedE (bys s) : Nat)]) := by
  refine f25.ok ?_
  have b0 := bt_bys s 0
  have b1 := bt_bys s 1
  have b2 := bt_bys s 2
  have b3 := bt_bys s 3
  simp only [Int.natCast_zero, Int.natCast_one, Int.cast_ofNat_Int] at b0 b1 b2 b3
  have l0 := bys_getD_lt s 0
  have l1 := bys_getD_lt s 1
  have l2 := bys_getD_lt s 2
  have l3 := bys_getD_lt s 3
  have hl := bys_len s
  have hn : (65536 * (bys s).getD 1 0 + 256 * (bys s).getD 2 0 + (bys s).getD 3 0 : Nat) = sizedN (bys s) := rfl
  by_cases h0 : s.size = 0
  · refine cst (f25.s1 (by simp [size0, h0])) ?_ rfl
    simp [sizedE, hl, h0]
  by_cases h1 : (bys s).getD 0 0 = 229
  · by_cases h2 : s.size < 4
    · refine cst (f25.s3 (by simp [size0, h0]) (by omega) (by rw [b0, h1]; rfl) (by simp; omega)) ?_ rfl
      have : sizedE (bys s) = 7 := by simp only [sizedE, hl, h0, h1, h2, if_true, if_false, ne_eq, not_true]
      simp [this]
    · by_cases h3 : sizedN (bys s) = 0
      · refine cst (f25.s4 (by simp [size0, h0]) (by omega) (by rw [b0, h1]; rfl) (by simp; omega) (by omega) (by omega) (by omega) (by omega) (by omega) (by omega) (by rw [b1, b2, b3, or3 l1 l2 l3, hn, h3]; rfl)) ?_ rfl
        have : sizedE (bys s) = 3 := by simp only [sizedE, hl, h0, h1, h2, h3, if_true, if_false, ne_eq, not_true, true_or]
        simp [this]
      · by_cases h4 : 32768 < sizedN (bys s)
        · refine cst (f25.s5 (by simp [size0, h0]) (by omega) (by rw [b0, h1]; rfl) (by simp; omega) (by omega) (by omega) (by omega) (by omega) (by omega) (by omega) (by rw [b1, b2, b3, or3 l1 l2 l3, hn]; simp; exact h3) (by rw [b1, b2, b3, or3 l1 l2 l3, hn]; simp; omega)) ?_ rfl
          have : sizedE (bys s) = 3 := by simp only [sizedE, hl, h0, h1, h2, h4, if_true, if_false, ne_eq, not_true, or_true]
          simp [this]
        · refine cst (f25.s6 (by simp [size0, h0]) (by omega) (by rw [b0, h1]; rfl) (by simp; omega) (by omega) (by omega) (by omega) (by omega) (by omega) (by omega) (by rw [b1, b2, b3, or3 l1 l2 l3, hn]; simp; exact h3) (by rw [b1, b2, b3, or3 l1 l2 l3, hn]; simp; omega)) ?_ rfl
          have : sizedE (bys s) = 0 := by simp only [sizedE, hl, h0, h1, h2, h3, h4, if_true, if_false, ne_eq, not_true, or_false]
          rw [b1, b2, b3, or3 l1 l2 l3, hn, this]
          simp
  · refine cst (f25.s2 (by simp [size0, h0]) (by omega) (by rw [b0, decide_eq_false (by omega)]; rfl)) ?_ rfl
    have : sizedE (bys s) = 3 := by simp only [sizedE, hl, h0, h1, if_true, if_false, ne_eq, not_false_eq_true]
    simp [this]

/-- The error at the front. -/
def frontE (l : List Nat) : Nat :=
  if sizedE l ≠ 0 then sizedE l else if l.length < 8 + sizedN l then 7
  else if (l.drop 4).take 4 ≠ oct4 (sumT ((l.drop 1).take 3 ++ (l.drop 8).take (sizedN l))) then 8 else 0
def frontB (l : List Nat) : List Nat := if frontE l = 0 then (l.drop 8).take (sizedN l) else []
def frontR (l : List Nat) : List Nat := if frontE l = 0 then l.drop (8 + sizedN l) else []
theorem txt_inj {l m : List Nat} (hl : ∀ x ∈ l, x < 256) (hm : ∀ x ∈ m, x < 256) (h : txt l = txt m) : l = m := by rw [← bys_txt hl, ← bys_txt hm, h]
theorem ext_eq {s : ByteArray} {i j : Nat} {l : List Nat} (hl : ∀ x ∈ l, x < 256) : (s.extract i j = txt l) ↔ ((bys s).drop i).take (j - i) = l := by
  constructor
  · intro h
    rw [← bys_extract', h, bys_txt hl]
  · intro h
    apply bys_inj
    rw [bys_extract', h, bys_txt hl]
theorem ext_txt (s : ByteArray) (i j : Nat) : s.extract i j = txt (((bys s).drop i).take (j - i)) := by rw [← bys_extract', txt_bys]
theorem front_ok (s : ByteArray) (hsz : s.size ≤ 9223372036854775807) : Pure Try.prog 11 [.string s] (.tuple #[.string (txt (frontB (bys s))), .string (txt (frontR (bys s))), .int .i64 (frontE (bys s) : Nat)]) := by
  refine f11.ok ?_
  have hz := sized_ok s hsz
  have hl := bys_len s
  have hb : ∀ x ∈ bys s, x < 256 := bys_lt s
  by_cases h0 : sizedE (bys s) = 0
  · rw [if_pos h0] at hz
    have hN : sizedN (bys s) ≤ 32768 := by
      unfold sizedE at h0
      split at h0; · omega
      split at h0; · omega
      split at h0; · omega
      split at h0
      · omega
      · rename_i hh; omega
    by_cases h1 : s.size < 8 + sizedN (bys s)
    · refine cst (f11.s2 hz (by rw [h0]; rfl) (by omega) (by simp; omega)) ?_ rfl
      have : frontE (bys s) = 7 := by simp [frontE, h0, hl, h1]
      simp only [frontB, frontR, this]
      rfl
    · have hx : (8 : Int) + ((sizedN (bys s) : Nat) : Int) = ((8 + sizedN (bys s) : Nat) : Int) := by simp
      have e1 : bys (s.extract 1 4) = ((bys s).drop 1).take 3 := bys_extract' s 1 4
      have e2 : bys (s.extract 8 (8 + sizedN (bys s))) = ((bys s).drop 8).take (sizedN (bys s)) := by rw [bys_extract']; congr 1; omega
      have hs := sum_ok (s.extract 1 4) (by rw [← bys_len, e1]; simp; omega)
      rw [e1] at hs
      have hlt1 : ∀ x ∈ ((bys s).drop 1).take 3, x < 256 := fun x hx => hb x (List.mem_of_mem_drop (List.mem_of_mem_take hx))
      have hm := more_ok (x := sumT (((bys s).drop 1).take 3)) (s.extract 8 (8 + sizedN (bys s))) (sumT_lt hlt1) (by rw [← bys_len, e2]; simp; omega)
      rw [e2, sum_app] at hm
      by_cases h2 : ((bys s).drop 4).take 4 = oct4 (sumT (((bys s).drop 1).take 3 ++ ((bys s).drop 8).take (sizedN (bys s))))
      · have hE : frontE (bys s) = 0 := by simp only [frontE, h0, hl, h1, h2, ne_eq, not_true, if_false]
        refine cst (f11.s4 hz (by rw [h0]; rfl) (by omega) (by simp; omega) (by omega) (by omega) (by omega) hs (by rw [hx, Int.toNat_natCast]; exact hm) (octets_ok _) (by rw [decide_eq_true ((ext_eq (s := s) (oct4_lt _)).2 h2)]; rfl) (by omega)) ?_ rfl
        rw [hx]
        simp only [Int.toNat_natCast, frontB, frontR, hE, if_true]
        rw [ext_txt s 8, ext_txt s (8 + sizedN (bys s)), show 8 + sizedN (bys s) - 8 = sizedN (bys s) by omega, ← hl]
        rw [List.take_of_length_le (l := List.drop (8 + sizedN (bys s)) (bys s)) (by simp)]
        rfl
      · have hE : frontE (bys s) = 8 := by simp only [frontE, h0, hl, h1, h2, ne_eq, not_true, not_false_eq_true, if_true, if_false]
        refine cst (f11.s3 hz (by rw [h0]; rfl) (by omega) (by simp; omega) (by omega) (by omega) (by omega) hs (by rw [hx, Int.toNat_natCast]; exact hm) (octets_ok _) ?_) ?_ rfl
        · have : ¬ (s.extract 4 8 = txt (oct4 (sumT (((bys s).drop 1).take 3 ++ ((bys s).drop 8).take (sizedN (bys s)))))) := fun h => h2 ((ext_eq (s := s) (oct4_lt _)).1 h)
          rw [decide_eq_false this]; rfl
        · simp only [frontB, frontR, hE]
          rfl
  · rw [if_neg h0] at hz
    have hE : frontE (bys s) = sizedE (bys s) := by simp [frontE, h0]
    refine cst (f11.s1 hz (by simp; exact h0)) ?_ rfl
    simp only [frontB, frontR, hE, h0, if_false]
    rfl

/-- What was wrapped stands at the front. -/
theorem front_wrap {b r : List Nat} (hb : ∀ x ∈ b, x < 256) (h0 : b.length ≠ 0) (h1 : b.length ≤ 32768) : frontE (wrapL b ++ r) = 0 ∧ frontB (wrapL b ++ r) = b ∧ frontR (wrapL b ++ r) = r := by
  have hn : sizedN (wrapL b ++ r) = b.length := by
    have : b.length < 16777216 := by omega
    simp only [sizedN, wrapL, headL, len3, List.cons_append, List.nil_append, List.getD_cons_succ, List.getD_cons_zero]
    omega
  have hs : sizedE (wrapL b ++ r) = 0 := by
    have hlen : (wrapL b ++ r).length = 8 + b.length + r.length := by rw [List.length_append, wrapL_len]
    have h229 : (wrapL b ++ r).getD 0 0 = 229 := rfl
    simp only [sizedE, hn, hlen, h229, show ¬ (8 + b.length + r.length = 0) by omega, show ¬ (8 + b.length + r.length < 4) by omega, h0, show ¬ (32768 < b.length) by omega, if_false, ne_eq, not_true, or_self]
  have d4 : ((wrapL b ++ r).drop 4).take 4 = oct4 (sumT (len3 b.length ++ b)) := by simp [wrapL, headL, len3, oct4]
  have d1 : ((wrapL b ++ r).drop 1).take 3 = len3 b.length := by simp [wrapL, headL, len3, oct4]
  have d8 : (wrapL b ++ r).drop 8 = b ++ r := by simp [wrapL, headL, len3, oct4]
  have d8' : ((wrapL b ++ r).drop 8).take b.length = b := by rw [d8]; simp
  have dr : (wrapL b ++ r).drop (8 + b.length) = r := by rw [← List.drop_drop, d8]; simp
  have hE : frontE (wrapL b ++ r) = 0 := by
    unfold frontE
    rw [hs, hn, d4, d1, d8']
    simp [wrapL_len]
  refine ⟨hE, ?_, ?_⟩
  · unfold frontB; rw [if_pos hE, hn, d8']
  · unfold frontR; rw [if_pos hE, hn, dr]
theorem awake_ok : Pure Try.prog 9 [] (.bool true) := by
  have e0 : (⟨#[97]⟩ : ByteArray) = txt [97] := rfl
  have e1 : (⟨#[120]⟩ : ByteArray) = txt [120] := rfl
  have b1 : bys (txt [97]) = [97] := bys_txt (by simp)
  have hw := wrap_ok ⟨#[97]⟩
  have hS : wrapS ⟨#[97]⟩ = txt (wrapL [97]) := by
    rw [e0]; unfold wrapS; rw [if_pos (by rw [txt_size]; rfl), b1]
  have hA : askE (⟨#[97]⟩ : ByteArray).size = 0 := rfl
  rw [hS, hA] at hw
  have hx : txt (wrapL [97]) ++ ⟨#[120]⟩ = txt (wrapL [97] ++ [120]) := by rw [e1, ← txt_app]
  have hlt : ∀ x ∈ wrapL [97] ++ [120], x < 256 := by
    intro x hx
    rcases List.mem_append.1 hx with h | h
    · exact wrapL_lt (by simp) x h
    · simp at h; omega
  have hf := front_ok (txt (wrapL [97]) ++ ⟨#[120]⟩) (by rw [hx, txt_size]; decide)
  rw [hx, bys_txt hlt] at hf
  obtain ⟨h1, h2, h3⟩ := front_wrap (b := [97]) (r := [120]) (by simp) (by simp) (by simp)
  rw [h1, h2, h3, ← hx] at hf
  refine f9.ok (cst (f9.s1 hw (by rw [txt_size]; decide) hf rfl rfl (by rw [txt_size]; decide) (by rw [txt_size]; decide) ?_ (by simp; rfl)) ?_ rfl)
  · have : (txt (wrapL [97])).extract 0 4 = txt [229, 0, 0, 1] := by rw [ext_txt, bys_txt (wrapL_lt (by simp))]; rfl
    exact decide_eq_true this
  · have : (decide (txt [120] = (⟨#[120]⟩ : ByteArray))) = true := by simp; rfl
    rw [this]

theorem wraps_ok (s : ByteArray) (hsz : s.size ≤ 9223372036854775807) : Pure Try.prog 4 [.string s] (.bool true) := by
  refine f4.ok ?_
  by_cases h : 2000 < s.size
  · exact f4.s1 (by simp; omega) awake_ok
  · refine cst (f4.s2 (by simp; omega) (wrap_ok s) (rwrap_ok s hsz) awake_ok rfl (by simp) (by simp) (long_ok s)) ?_ rfl
    have : ((if askE s.size = 0 then (8 + s.size : Nat) else 0 : Nat) : Int) = ((wrapS s).size : Nat) := by
      unfold wrapS
      split
      · rw [txt_size, wrapL_len, bys_len]
      · rfl
    rw [this]; simp
end Go.Proofs.Ytnecampknnjjiaa.Abs.Seg11

namespace Go.Proofs.Ytnecampknnjjiaa.Abs.Seg11
open Go Go.RowKit Go.Proofs Go.Proofs.Ytnecampknnjjiaa.Abs Go.Proofs.Ytnecampknnjjiaa.Abs.Crc

theorem limits_ok (x : Int) : Pure Try.prog 5 [.int .i64 x] (.bool true) := by
  obtain ⟨e, hlt⟩ := tmod_twice x 16 (by decide)
  have hb := tmod_bd x 16 (by decide)
  simp only [Int.cast_ofNat_Int] at e hb
  generalize (x % 16).toNat = f at e hlt
  have hn : (32760 : Int) + (f : Int) = ((32760 + f : Nat) : Int) := by simp
  have hz : ofInts (List.take (32760 + f) (List.drop 0 (List.replicate (32760 + f) (0 : Int)))) = txt (List.replicate (32760 + f) 0) := by
    rw [ii_rep, List.drop_zero, ii_take, List.take_of_length_le (by simp)]; rfl
  have zl : ∀ x ∈ List.replicate (32760 + f) 0, x < 256 := by intro x hx; rw [(List.mem_replicate.1 hx).2]; decide
  have zb : bys (txt (List.replicate (32760 + f) 0)) = List.replicate (32760 + f) 0 := bys_txt zl
  have zs : (txt (List.replicate (32760 + f) 0)).size = 32760 + f := by rw [txt_size]; simp
  refine f5.ok ?_
  have hw := wrap_ok (txt (List.replicate (32760 + f) 0))
  have hg := long_ok (txt (List.replicate (32760 + f) 0))
  rw [zs] at hw hg
  by_cases h : 32768 < 32760 + f
  · have ha : askE (32760 + f) = 2 := by simp [askE, h]
    rw [ha] at hw hg
    have hS : wrapS (txt (List.replicate (32760 + f) 0)) = ByteArray.empty := by unfold wrapS; rw [zs, ha]; rfl
    rw [hS] at hw
    refine cst (f5.s1 (u1 := ByteArray.empty) (r2 := 2) (p3 := true) (r4 := 0) ?_ ?_ ?_ ?_ ?_ ?_ awake_ok rfl rfl (decide_eq_true emp_eq.symm) ?_) (by simp) rfl
    · omega
    · rw [e]; omega
    · rw [e]; omega
    · rw [e, hn]; simp
    · rw [e, hn, Int.toNat_natCast, hz]; exact hw
    · rw [e]; simp; omega
    · rw [e, hn, Int.toNat_natCast, hz]; exact hg
  · have ha : askE (32760 + f) = 0 := by simp [askE, h]
    rw [ha] at hw hg
    have hS : wrapS (txt (List.replicate (32760 + f) 0)) = txt (wrapL (List.replicate (32760 + f) 0)) := by unfold wrapS; rw [zs, ha, if_pos rfl, zb]
    rw [hS] at hw
    obtain ⟨q1, q2, q3⟩ := front_wrap (b := List.replicate (32760 + f) 0) (r := []) zl (by simp) (by simp; omega)
    rw [List.append_nil] at q1 q2 q3
    have hf := front_ok (txt (wrapL (List.replicate (32760 + f) 0))) (by rw [txt_size, wrapL_len]; simp; omega)
    rw [bys_txt (wrapL_lt zl), q1, q2, q3] at hf
    refine cst (f5.s2 (u1 := txt (wrapL (List.replicate (32760 + f) 0))) (r2 := 0) (u3 := txt (List.replicate (32760 + f) 0)) (u4 := txt []) (r5 := 0) (p6 := true) (r7 := ((8 + (32760 + f) : Nat) : Int)) ?_ ?_ ?_ ?_ ?_ ?_ hf awake_ok rfl rfl rfl ?_ (decide_eq_true rfl) ?_ ?_) ?_ rfl
    · omega
    · rw [e]; omega
    · rw [e]; omega
    · rw [e, hn]; simp
    · rw [e, hn, Int.toNat_natCast, hz]; exact hw
    · rw [e]; simp; omega
    · rw [e, hn, Int.toNat_natCast, hz]; simp
    · rw [e, hn, Int.toNat_natCast, hz]; exact hg
    · rw [e]; omega
    · rw [e]; congr 2; simp; omega

/-! Bits that are turned -/
theorem oct4_inj {a b : Nat} (ha : a < 4294967296) (hb : b < 4294967296) (h : oct4 a = oct4 b) : a = b := by
  simp [oct4] at h
  omega
/-- Another body under a body's head. -/
theorem front_head {b c : List Nat} (hb : ∀ x ∈ b, x < 256) (hc : ∀ x ∈ c, x < 256) (h0 : b.length ≠ 0) (h1 : b.length ≤ 32768) (hl : c.length = b.length) :
    frontE (headL b ++ c) = (if sumT (len3 b.length ++ c) = sumT (len3 b.length ++ b) then 0 else 8) ∧ frontB (headL b ++ c) = (if sumT (len3 b.length ++ c) = sumT (len3 b.length ++ b) then c else []) := by
  have hn : sizedN (headL b ++ c) = b.length := by
    simp only [sizedN, headL, len3, List.cons_append, List.nil_append, List.getD_cons_succ, List.getD_cons_zero]
    omega
  have hlen : (headL b ++ c).length = 8 + b.length := by rw [List.length_append, headL_len, hl]
  have hs : sizedE (headL b ++ c) = 0 := by
    have h229 : (headL b ++ c).getD 0 0 = 229 := rfl
    simp only [sizedE, hn, hlen, h229, show ¬ (8 + b.length = 0) by omega, show ¬ (8 + b.length < 4) by omega, h0, show ¬ (32768 < b.length) by omega, if_false, ne_eq, not_true, or_self]
  have d4 : ((headL b ++ c).drop 4).take 4 = oct4 (sumT (len3 b.length ++ b)) := by simp [headL, len3, oct4]
  have d1 : ((headL b ++ c).drop 1).take 3 = len3 b.length := by simp [headL, len3, oct4]
  have d8 : (headL b ++ c).drop 8 = c := by simp [headL, len3, oct4]
  have d8' : ((headL b ++ c).drop 8).take b.length = c := by rw [d8, ← hl]; simp
  have l1 : ∀ x ∈ len3 b.length ++ c, x < 256 := by
    intro x hx
    rcases List.mem_append.1 hx with h | h
    · exact len3_lt _ x h
    · exact hc x h
  have l2 : ∀ x ∈ len3 b.length ++ b, x < 256 := by
    intro x hx
    rcases List.mem_append.1 hx with h | h
    · exact len3_lt _ x h
    · exact hb x h
  have hE : frontE (headL b ++ c) = (if sumT (len3 b.length ++ c) = sumT (len3 b.length ++ b) then 0 else 8) := by
    unfold frontE
    rw [hs, hn, d4, d1, d8', hlen]
    simp only [ne_eq, not_true, if_false, Nat.lt_irrefl]
    by_cases h : sumT (len3 b.length ++ c) = sumT (len3 b.length ++ b)
    · rw [h]; simp
    · rw [if_neg h, if_pos]
      intro e
      exact h (oct4_inj (sumT_lt l2) (sumT_lt l1) e).symm
  refine ⟨hE, ?_⟩
  unfold frontB
  rw [hE, hn, d8']
  by_cases h : sumT (len3 b.length ++ c) = sumT (len3 b.length ++ b)
  · simp [h]
  · simp [h]

theorem and1 {n : Nat} (h : n < 4294967296) : Go.bits .and .u32 (n : Int) 1 = ((n % 2 : Nat) : Int) := by
  rw [show (1 : Int) = ((1 : Nat) : Int) from rfl, and_u32 h (by decide), Nat.and_one_is_mod]
theorem set_app (h c : List Nat) (n : Nat) (hh : h.length = 8) (j : Nat) : List.set (ii (h ++ c)) (8 + j) (n : Int) = ii (h ++ c.set j n) := by
  rw [ii_set, List.set_append, if_neg (by omega), hh, show 8 + j - 8 = j by omega]
theorem getD_app (h c : List Nat) (hh : h.length = 8) (j : Nat) : (h ++ c).getD (8 + j) 0 = c.getD j 0 := by
  rw [List.getD_eq_getElem?_getD, List.getElem?_append_right (by omega), hh, show 8 + j - 8 = j by omega, ← List.getD_eq_getElem?_getD]

theorem burst_loop (s : ByteArray) (x1 : Int) (B : Nat) (hB : B < 4294967296) (b0 : Bool) (first : Nat) (hs0 : s.size ≠ 0) (hs : s.size ≤ 2000) (hf : first < 8 * s.size) :
    ∀ (j k : Nat) (m : List Nat), k + j = 32 → Turned (bys s) first k m →
    f3.at1 s x1 B b0 (txt (wrapL (bys s))) (8 + s.size) ((8 * s.size : Nat) : Int) first k (ii (headL (bys s) ++ m)) (.bool true) [] := by
  have hbl := bys_len s
  have hlt := bys_lt s
  intro j
  induction j with
  | zero =>
    intro k m hk T
    obtain rfl : k = 32 := by omega
    have hml := T.len
    have hlen : (headL (bys s) ++ m).length = 8 + s.size := by rw [List.length_append, headL_len, hml, hbl]
    have e1 : ofInts (List.take (8 + s.size) (List.drop 0 (ii (headL (bys s) ++ m)))) = txt (headL (bys s) ++ m) := by
      rw [List.drop_zero, ii_take, List.take_of_length_le (by omega)]; rfl
    have hh : ∀ x ∈ headL (bys s) ++ m, x < 256 := by
      intro x hx
      rcases List.mem_append.1 hx with h | h
      · exact headL_lt _ x h
      · exact T.lt x h
    have hfr := front_ok (txt (headL (bys s) ++ m)) (by rw [txt_size]; omega)
    rw [bys_txt hh] at hfr
    obtain ⟨q1, q2⟩ := front_head (b := bys s) (c := m) hlt T.lt (by omega) (by omega) hml
    rw [q1, q2] at hfr
    by_cases hm : m = bys s
    · rw [hm] at e1 hfr ⊢
      simp only [if_true] at hfr
      refine cst (f3.s7 (by rfl) (by rw [ii_len]; simp [headL_len, hbl]) (by rw [e1]; exact hfr) (by rw [e1]; exact decide_eq_true rfl) awake_ok rfl rfl) ?_ rfl
      rw [txt_bys]; simp
    · have hne : ¬ (sumT (len3 (bys s).length ++ m) = sumT (len3 (bys s).length ++ bys s)) := by
        intro he
        rw [← sum_app, ← sum_app] at he
        exact hm (T.told hlt (by omega) _ (more_inj he))
      rw [if_neg hne, if_neg hne] at hfr
      refine cst (f3.s10 (by rfl) (by rw [ii_len, hlen]; omega) (by rw [e1]; exact hfr) ?_ awake_ok rfl rfl) ?_ rfl
      · rw [e1]
        refine decide_eq_false fun h => hm ?_
        have := txt_inj hh (wrapL_lt hlt) h
        exact List.append_cancel_left this
      · have : decide (txt [] = (⟨#[]⟩ : ByteArray)) = true := decide_eq_true rfl
        rw [this]
  | succ j ih =>
    intro k m hk T
    have hk32 : k < 32 := by omega
    have e0 : (k : Int) + 1 = ((k + 1 : Nat) : Int) := by simp
    have e1 : (first : Int) + (k : Int) = ((first + k : Nat) : Int) := by simp
    have ew : Int.toNat (wrapE .u64 (k : Int)) = k := by rw [w64, Int.toNat_natCast, Nat.mod_eq_of_lt (by omega)]
    have ew2 : wrapE .u64 (k : Int) = (k : Int) := by rw [w64, Nat.mod_eq_of_lt (by omega)]
    have ebit : Go.bits .and .u32 ((B : Int) / 2 ^ k) 1 = ((B / 2 ^ k % 2 : Nat) : Int) := by
      rw [shr_n, and1 (Nat.lt_of_le_of_lt (Nat.div_le_self _ _) hB)]
    by_cases h1 : first + k < 8 * s.size
    · by_cases h2 : B / 2 ^ k % 2 = 1
      · have et : Int.tdiv ((first + k : Nat) : Int) 8 = (((first + k) / 8 : Nat) : Int) := by rw [Int.tdiv_eq_ediv_of_nonneg (by omega)]; simp
        have em : Int.tmod ((first + k : Nat) : Int) 8 = (((first + k) % 8 : Nat) : Int) := by rw [Int.tmod_eq_emod_of_nonneg (by omega)]; simp
        have ei : (8 : Int) + (((first + k) / 8 : Nat) : Int) = ((8 + (first + k) / 8 : Nat) : Int) := by simp
        have hml := T.len
        have hidx : (first + k) / 8 < m.length := by omega
        have ewm : wrapE .u64 ((((first + k) % 8 : Nat)) : Int) = (((first + k) % 8 : Nat) : Int) := by rw [w64, Nat.mod_eq_of_lt (by omega)]
        have ewb : wrapE .u8 (1 * 2 ^ ((first + k) % 8)) = ((2 ^ ((first + k) % 8) : Nat) : Int) := by
          have : (1 : Int) * 2 ^ ((first + k) % 8) = ((2 ^ ((first + k) % 8) : Nat) : Int) := by simp
          have h8 : 2 ^ ((first + k) % 8) < 2 ^ 8 := Nat.pow_lt_pow_right (by decide) (Nat.mod_lt _ (by decide))
          rw [this, w8n, Nat.mod_eq_of_lt h8]
        refine f3.s6 (by simp; omega) (by omega) (by rw [e1]; simp; omega) (by rw [ew2]; simp [IntKind.bits]; omega) (by rw [ew, ebit, h2]; rfl) ?_ ?_ ?_ ?_ ?_ (by omega) ?_
        · rw [e1, et]; refine ⟨by decide, by omega, by omega⟩
        · rw [e1, et]; omega
        · rw [e1, et]; omega
        · rw [e1, et, ei, Int.toNat_natCast, ii_len, List.length_append, headL_len]; omega
        · rw [e1, em, ewm]; simp [IntKind.bits]; omega
        · rw [e1, et, em, ewm, ei, Int.toNat_natCast, Int.toNat_natCast, ewb, Nat.zero_add, Nat.mul_one, ii_rd, getD_app _ _ (headL_len _)]
          have hg : m.getD ((first + k) / 8) 0 < 256 := getD_lt_of T.lt (by decide)
          have h8 : 2 ^ ((first + k) % 8) < 2 ^ 8 := Nat.pow_lt_pow_right (by decide) (Nat.mod_lt _ (by decide))
          rw [xor_u8 hg h8, set_app _ _ _ (headL_len _), e0]
          exact ih (k + 1) (Crc.flip m (first + k)) (by omega) (T.flip (by omega))
      · refine f3.s9 (by simp; omega) (by omega) (by rw [e1]; simp; omega) (by rw [ew2]; simp [IntKind.bits]; omega) (by rw [ew, ebit]; exact decide_eq_false (by omega)) (by omega) ?_
        rw [e0]
        exact ih (k + 1) m (by omega) T.stay
    · refine f3.s8 (by simp; omega) (by omega) (by rw [e1]; simp; omega) (by omega) ?_
      rw [e0]
      exact ih (k + 1) m (by omega) T.stay
theorem burst_ok (s : ByteArray) (x1 : Int) {B : Nat} (hB : B < 4294967296) : Pure Try.prog 3 [.string s, .int .i64 x1, .int .u32 B] (.bool true) := by
  refine f3.ok ?_
  by_cases h : 2000 < s.size
  · exact f3.s1 (by simp; omega) awake_ok
  by_cases h0 : s.size = 0
  · exact f3.s2 (by simp; omega) (by simp [size0, h0]) awake_ok
  have ha : askE s.size = 0 := by simp [askE, h0]; omega
  have hw := wrap_ok s
  have hS : wrapS s = txt (wrapL (bys s)) := by unfold wrapS; rw [if_pos ha]
  rw [hS, ha] at hw
  have hz : (txt (wrapL (bys s))).size = 8 + s.size := by rw [txt_size, wrapL_len, bys_len]
  obtain ⟨e, hlt⟩ := tmod_twice x1 (8 * s.size) (by omega)
  have hb := tmod_bd x1 (8 * s.size) (by omega)
  have e8 : (8 : Int) * (s.size : Int) = ((8 * s.size : Nat) : Int) := by simp
  refine f3.s5 (by simp; omega) (by simp [size0, h0]) hw rfl (by omega) (by rw [hz]; simp; omega) (by omega) (by omega) (by rw [e8]; omega) ?_
  rw [e8, e, hz, bytesOf_bys, bys_txt (wrapL_lt (bys_lt s))]
  exact burst_loop s x1 B hB false _ h0 (by omega) hlt 32 0 (bys s) rfl (Turned.zero (bys_lt s) _)
theorem limits_row (x : Int) (w : (Lit.int .i64 x).wf = true) : FnOk Try.prog 5 [.int .i64 x] [] (.bool true) [] := limits_ok x
theorem burst_row (s : ByteArray) (ws : s.size ≤ 140737488351232) (x : Int) (w : (Lit.int .i64 x).wf = true) (b : Int) (wb : (Lit.int .u32 b).wf = true) : FnOk Try.prog 3 [.string s, .int .i64 x, .int .u32 b] [] (.bool true) [] := by
  obtain ⟨n, rfl, hn⟩ := wfu32 wb
  exact burst_ok s x hn
end Go.Proofs.Ytnecampknnjjiaa.Abs.Seg11

