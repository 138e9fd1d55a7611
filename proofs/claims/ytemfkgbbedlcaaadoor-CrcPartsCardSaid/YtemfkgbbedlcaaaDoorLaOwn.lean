/- CRC-32: what the functions of crc and of its reference give. -/
import Derived.Test.YtemfkgbbedlcaaaDoorLaSeg
import Derived.Shelf.Spec.TrailingZeros
set_option linter.unusedVariables false
set_option linter.unusedSimpArgs false
set_option maxRecDepth 100000
/- Plain facts on CRC-32: the register behind bits 0 is a linear map, and a text comes in as one number. -/
namespace Go.Proofs.YtemfkgbbedlcaaaDoor.Abs.Crc

def poly : Nat := 3988292384
def M : Nat := 4294967295
/-- The register behind a bit 0. -/
def z (r : Nat) : Nat := (r / 2) ^^^ (if r % 2 = 1 then poly else 0)
def zk : Nat → Nat → Nat
  | 0, r => r
  | k + 1, r => zk k (z r)

theorem x4 (a b c d : Nat) : (a ^^^ b) ^^^ (c ^^^ d) = (a ^^^ c) ^^^ (b ^^^ d) := by
  rw [Nat.xor_assoc, Nat.xor_assoc, ← Nat.xor_assoc b c d, Nat.xor_comm b c, Nat.xor_assoc c b d]
theorem xlt {a b : Nat} (ha : a < 4294967296) (hb : b < 4294967296) : a ^^^ b < 4294967296 := Nat.xor_lt_two_pow (n := 32) ha hb
theorem xor_mod2 (a b : Nat) : (a ^^^ b) % 2 = (a % 2) ^^^ (b % 2) := Nat.xor_mod_two_pow (n := 1)
theorem xor_div2 (a b : Nat) : (a ^^^ b) / 2 = a / 2 ^^^ b / 2 := Nat.xor_div_two
theorem xor_right {a b c : Nat} (h : a ^^^ b = a ^^^ c) : b = c := by
  have := congrArg (a ^^^ ·) h
  simpa [← Nat.xor_assoc] using this

theorem z_xor (a b : Nat) : z (a ^^^ b) = z a ^^^ z b := by
  unfold z
  rw [xor_div2, xor_mod2, x4]
  congr 1
  rcases Nat.mod_two_eq_zero_or_one a with p | p <;> rcases Nat.mod_two_eq_zero_or_one b with q | q <;> simp [p, q]
theorem z_lt {r : Nat} (h : r < 4294967296) : z r < 4294967296 := by
  unfold z
  refine xlt (by omega) ?_
  split <;> decide
theorem z_even (r : Nat) : z (2 * r) = r := by
  unfold z
  have h1 : 2 * r / 2 = r := by omega
  have h2 : 2 * r % 2 = 0 := by omega
  rw [h1, h2]; simp
theorem z_zero : z 0 = 0 := rfl
theorem z_inj {r : Nat} (h : r < 4294967296) (hz : z r = 0) : r = 0 := by
  unfold z at hz
  split at hz
  · have h1 : r / 2 = poly := by
      have := congrArg (· ^^^ poly) hz
      simpa [Nat.xor_assoc] using this
    have : poly = 3988292384 := rfl
    omega
  · simp at hz; omega

theorem zk_xor : ∀ (k a b : Nat), zk k (a ^^^ b) = zk k a ^^^ zk k b
  | 0, _, _ => rfl
  | k + 1, a, b => by unfold zk; rw [z_xor, zk_xor k]
theorem zk_lt : ∀ (k : Nat) {r : Nat}, r < 4294967296 → zk k r < 4294967296
  | 0, _, h => h
  | k + 1, _, h => zk_lt k (z_lt h)
theorem zk_zero : ∀ k, zk k 0 = 0
  | 0 => rfl
  | k + 1 => by unfold zk; rw [z_zero, zk_zero k]
theorem zk_add : ∀ (a b r : Nat), zk (a + b) r = zk b (zk a r)
  | 0, b, r => by rw [Nat.zero_add]; rfl
  | a + 1, b, r => by
    rw [show a + 1 + b = (a + b) + 1 by omega]
    show zk (a + b) (z r) = zk b (zk a (z r))
    exact zk_add a b (z r)
theorem zk_pow : ∀ (k r : Nat), zk k (2 ^ k * r) = r
  | 0, r => by simp [zk]
  | k + 1, r => by
    unfold zk
    rw [show 2 ^ (k + 1) * r = 2 * (2 ^ k * r) by rw [Nat.pow_succ, Nat.mul_comm (2 ^ k) 2, Nat.mul_assoc], z_even, zk_pow k]
theorem zk_inj : ∀ (k : Nat) {r : Nat}, r < 4294967296 → zk k r = 0 → r = 0
  | 0, _, _, hz => hz
  | k + 1, _, h, hz => z_inj h (zk_inj k (z_lt h) hz)

/-- A bit comes in. -/
def st (r b : Nat) : Nat := z (r ^^^ b % 2)
theorem low_xor (c : Nat) : c % 2 ^^^ 2 * (c / 2) = c := by
  apply Nat.eq_of_testBit_eq
  intro i
  rw [Nat.testBit_xor]
  cases i with
  | zero => simp [Nat.testBit_zero]
  | succ i =>
    have h1 : (c % 2).testBit (i + 1) = false := Nat.testBit_lt_two_pow (Nat.lt_of_lt_of_le (Nat.mod_lt _ (by decide)) (by
      rw [Nat.pow_succ]; have := Nat.two_pow_pos i; omega))
    rw [h1, Nat.testBit_succ, Nat.testBit_succ]
    simp
/-- Bits come in, the lowest first. -/
def bitsR : Nat → Nat → Nat → Nat
  | 0, r, _ => r
  | k + 1, r, c => bitsR k (st r c) (c / 2)
theorem bitsR_eq : ∀ (k r c : Nat), c < 2 ^ k → bitsR k r c = zk k (r ^^^ c)
  | 0, r, c, h => by
    obtain rfl : c = 0 := by simpa using h
    simp [bitsR, zk]
  | k + 1, r, c, h => by
    unfold bitsR zk
    rw [bitsR_eq k _ _ (by rw [Nat.pow_succ] at h; omega)]
    congr 1
    unfold st
    conv => lhs; rhs; rw [← z_even (c / 2)]
    rw [← z_xor, Nat.xor_assoc, low_xor]

/-- Four bits. -/
def tab (i : Nat) : Nat := zk 4 i
theorem mod16_xor (c : Nat) : c % 16 ^^^ 16 * (c / 16) = c := by
  apply Nat.eq_of_testBit_eq
  intro i
  rw [Nat.testBit_xor, show (16 : Nat) = 2 ^ 4 from rfl, Nat.testBit_mod_two_pow, Nat.testBit_two_pow_mul, Nat.testBit_div_two_pow]
  by_cases h : i < 4
  · have : ¬ 4 ≤ i := by omega
    simp [h, this]
  · have h2 : 4 ≤ i := by omega
    have : 4 + (i - 4) = i := by omega
    have h3 : i - 4 + 4 = i := by omega
    simp [h, h2, this, h3]
theorem nib (x : Nat) : zk 4 x = x / 16 ^^^ tab (x % 16) := by
  conv => lhs; rw [← mod16_xor x]
  rw [zk_xor, show 16 * (x / 16) = 2 ^ 4 * (x / 16) from rfl, zk_pow, Nat.xor_comm]
  rfl
theorem nib1 (r c : Nat) : r / 16 ^^^ tab ((r ^^^ c) % 16) = zk 4 (r ^^^ c % 16) := by
  rw [nib]
  have h1 : (r ^^^ c % 16) / 16 = r / 16 := by
    rw [show (16 : Nat) = 2 ^ 4 from rfl, Nat.xor_div_two_pow, Nat.div_eq_of_lt (Nat.mod_lt c (Nat.two_pow_pos 4)), Nat.xor_zero]
  have h2 : (r ^^^ c % 16) % 16 = (r ^^^ c) % 16 := by
    rw [show (16 : Nat) = 2 ^ 4 from rfl, Nat.xor_mod_two_pow, Nat.xor_mod_two_pow, Nat.mod_mod]
  rw [h1, h2]
/-- A byte, by halves. -/
theorem halves (r c : Nat) (hc : c < 256) : let r1 := r / 16 ^^^ tab ((r ^^^ c) % 16); r1 / 16 ^^^ tab ((r1 ^^^ c / 16) % 16) = zk 8 (r ^^^ c) := by
  intro r1
  have h1 : r1 = zk 4 (r ^^^ c % 16) := nib1 r c
  rw [nib1, Nat.mod_eq_of_lt (show c / 16 < 16 by omega), h1]
  have : c / 16 = zk 4 (16 * (c / 16)) := (zk_pow 4 (c / 16)).symm
  conv => lhs; rw [this]
  rw [← zk_xor, Nat.xor_assoc, mod16_xor, ← zk_add]

/-- The register behind a text. -/
def regT (r : Nat) (l : List Nat) : Nat := l.foldl (fun r c => zk 8 (r ^^^ c)) r
def num : List Nat → Nat
  | [] => 0
  | c :: l => c ^^^ 256 * num l
theorem num_cons (c : Nat) (hc : c < 256) (n : Nat) : c ^^^ 256 * n = c + 256 * n := by
  have h : ∀ i, (c ^^^ 256 * n).testBit i = (256 * n + c).testBit i := by
    intro i
    rw [Nat.testBit_xor, show (256 : Nat) = 2 ^ 8 from rfl, Nat.testBit_two_pow_mul_add n (by simpa using hc), Nat.testBit_two_pow_mul]
    by_cases h : i < 8
    · have : ¬ 8 ≤ i := by omega
      simp [h, this]
    · simp only [h, if_false]
      rw [Nat.testBit_lt_two_pow (Nat.lt_of_lt_of_le hc (by rw [show (256 : Nat) = 2 ^ 8 from rfl]; exact Nat.pow_le_pow_right (by decide) (by omega)))]
      simp; omega
  rw [Nat.add_comm]
  exact Nat.eq_of_testBit_eq h
theorem num_lt : ∀ (l : List Nat), (∀ x ∈ l, x < 256) → num l < 2 ^ (8 * l.length)
  | [], _ => by simp [num]
  | c :: l, h => by
    have h1 := num_lt l fun x hx => h x (by simp [hx])
    have h2 := h c (by simp)
    rw [num, num_cons c h2, List.length_cons, show 8 * (l.length + 1) = 8 * l.length + 8 by omega, Nat.pow_add]
    omega
theorem regT_num : ∀ (l : List Nat) (r : Nat), (∀ x ∈ l, x < 256) → regT r l = zk (8 * l.length) (r ^^^ num l)
  | [], r, _ => by simp [regT, num, zk]
  | c :: l, r, h => by
    have e : regT r (c :: l) = regT (zk 8 (r ^^^ c)) l := rfl
    rw [e, regT_num l _ fun x hx => h x (by simp [hx]), List.length_cons, show 8 * (l.length + 1) = 8 + 8 * l.length by omega, zk_add]
    congr 1
    have : num l = zk 8 (256 * num l) := (zk_pow 8 (num l)).symm
    conv => lhs; rw [this]
    rw [← zk_xor, num, Nat.xor_assoc]
theorem num_inj : ∀ (l m : List Nat), l.length = m.length → (∀ x ∈ l, x < 256) → (∀ x ∈ m, x < 256) → num l = num m → l = m
  | [], [], _, _, _, _ => rfl
  | [], _ :: _, h, _, _, _ => by simp at h
  | _ :: _, [], h, _, _, _ => by simp at h
  | c :: l, d :: m, h, h1, h2, e => by
    rw [num, num, num_cons c (h1 c (by simp)), num_cons d (h2 d (by simp))] at e
    have hc := h1 c (by simp)
    have hd := h2 d (by simp)
    have e1 : c = d := by omega
    have e2 : num l = num m := by omega
    rw [e1, num_inj l m (by simpa using h) (fun x hx => h1 x (by simp [hx])) (fun x hx => h2 x (by simp [hx])) e2]

theorem regT_app (r : Nat) (l m : List Nat) : regT r (l ++ m) = regT (regT r l) m := by simp [regT]
theorem regT_lt : ∀ (l : List Nat) {r : Nat}, (∀ x ∈ l, x < 256) → r < 4294967296 → regT r l < 4294967296
  | [], _, _, h => h
  | c :: l, r, hl, h => by
    have e : regT r (c :: l) = regT (zk 8 (r ^^^ c)) l := rfl
    rw [e]
    exact regT_lt l (fun x hx => hl x (by simp [hx])) (zk_lt 8 (xlt h (by have := hl c (by simp); omega)))
theorem regT_xor : ∀ (l m : List Nat) (r s : Nat), l.length = m.length → regT (r ^^^ s) (List.zipWith (· ^^^ ·) l m) = regT r l ^^^ regT s m
  | [], [], r, s, _ => rfl
  | [], _ :: _, _, _, h => by simp at h
  | _ :: _, [], _, _, h => by simp at h
  | c :: l, d :: m, r, s, h => by
    have e : ∀ (r c : Nat) (l : List Nat), regT r (c :: l) = regT (zk 8 (r ^^^ c)) l := fun _ _ _ => rfl
    simp only [List.zipWith_cons_cons, e]
    rw [x4, zk_xor, regT_xor l m _ _ (by simpa using h)]
theorem regT_zeros : ∀ (n r : Nat), regT r (List.replicate n 0) = zk (8 * n) r
  | 0, r => rfl
  | n + 1, r => by
    have e : regT r (List.replicate (n + 1) 0) = regT (zk 8 (r ^^^ 0)) (List.replicate n 0) := rfl
    rw [e, regT_zeros n, Nat.xor_zero, ← zk_add]
    congr 1
    omega
theorem regT_split (r : Nat) (l : List Nat) : regT r l = zk (8 * l.length) r ^^^ regT 0 l := by
  have h := regT_xor (List.replicate l.length 0) l r 0 (by simp)
  have e : List.zipWith (· ^^^ ·) (List.replicate l.length 0) l = l := by
    have : ∀ l : List Nat, List.zipWith (· ^^^ ·) (List.replicate l.length 0) l = l := by
      intro l
      induction l with
      | nil => rfl
      | cons c l ih => simp [List.replicate_succ, ih]
    exact this l
  rw [e, Nat.xor_zero, regT_zeros] at h
  exact h

def more (sum : Nat) (l : List Nat) : Nat := M ^^^ regT (M ^^^ sum) l
def sumT (l : List Nat) : Nat := more 0 l
def zeros (sum n : Nat) : Nat := M ^^^ zk (8 * n) (M ^^^ sum)
theorem M_lt : M < 4294967296 := by decide
theorem MM (x : Nat) : M ^^^ (M ^^^ x) = x := by rw [← Nat.xor_assoc, Nat.xor_self, Nat.zero_xor]
theorem M_sub {x : Nat} (h : x < 4294967296) : M - x = M ^^^ x := by
  have e : M = 2 ^ 32 - 1 := rfl
  apply Nat.eq_of_testBit_eq
  intro i
  rw [e, Nat.sub_sub, Nat.add_comm 1 x, Nat.testBit_two_pow_sub_succ (by simpa using h), Nat.testBit_xor, Nat.testBit_two_pow_sub_one]
  by_cases hi : i < 32
  · simp [hi]
  · have : x.testBit i = false := Nat.testBit_lt_two_pow (Nat.lt_of_lt_of_le h (by rw [show (4294967296 : Nat) = 2 ^ 32 from rfl]; exact Nat.pow_le_pow_right (by decide) (by omega)))
    simp [hi, this]
theorem more_lt {sum : Nat} {l : List Nat} (hl : ∀ x ∈ l, x < 256) (h : sum < 4294967296) : more sum l < 4294967296 := xlt M_lt (regT_lt l hl (xlt M_lt h))
theorem zeros_lt {sum : Nat} (n : Nat) (h : sum < 4294967296) : zeros sum n < 4294967296 := xlt M_lt (zk_lt _ (xlt M_lt h))
theorem more_app (s : Nat) (l m : List Nat) : more s (l ++ m) = more (more s l) m := by
  unfold more; rw [MM, regT_app]
theorem more_nil (s : Nat) : more s [] = s := by unfold more; rw [show regT (M ^^^ s) [] = M ^^^ s from rfl, MM]
theorem zeros_add (s a b : Nat) : zeros (zeros s a) b = zeros s (a + b) := by
  unfold zeros; rw [MM, ← zk_add, Nat.mul_add]
theorem zeros_zero (s : Nat) : zeros s 0 = s := by unfold zeros; rw [Nat.mul_zero]; exact MM s
theorem zeros_more (s n : Nat) : zeros s n = more s (List.replicate n 0) := by unfold zeros more; rw [regT_zeros]
theorem combine_eq (la lb : List Nat) : zeros (sumT la) lb.length ^^^ sumT lb ^^^ zeros 0 lb.length = sumT (la ++ lb) := by
  unfold sumT zeros more
  simp only [MM, Nat.xor_zero, regT_app]
  rw [regT_split M lb, regT_split (regT M la) lb]
  generalize zk (8 * lb.length) (regT M la) = A
  generalize zk (8 * lb.length) M = B
  generalize regT 0 lb = C
  rw [show M ^^^ A ^^^ (M ^^^ (B ^^^ C)) ^^^ (M ^^^ B) = (M ^^^ M) ^^^ (B ^^^ B) ^^^ (M ^^^ (A ^^^ C)) by ac_rfl]
  simp
theorem mix3 (a b c : List Nat) (h1 : a.length = b.length) (h2 : b.length = c.length) :
    sumT (List.zipWith (· ^^^ ·) (List.zipWith (· ^^^ ·) a b) c) = sumT a ^^^ sumT b ^^^ sumT c := by
  unfold sumT more
  rw [Nat.xor_zero]
  have h := regT_xor (List.zipWith (· ^^^ ·) a b) c (M ^^^ M) M (by simp [h1, h2])
  rw [regT_xor a b M M h1, Nat.xor_self, Nat.zero_xor] at h
  rw [h]
  generalize regT M a = A
  generalize regT M b = B
  generalize regT M c = C
  rw [show M ^^^ A ^^^ (M ^^^ B) ^^^ (M ^^^ C) = (M ^^^ M) ^^^ (M ^^^ (A ^^^ B ^^^ C)) by ac_rfl]
  simp

/-- A burst of at most 32 bits is told. -/
theorem burst {l m : List Nat} (hl : ∀ x ∈ l, x < 256) (hm : ∀ x ∈ m, x < 256) (hlen : l.length = m.length) {first B : Nat} (hB : B < 4294967296) (hf : first ≤ 8 * l.length) (hd : num m = num l ^^^ 2 ^ first * B) (r : Nat) (he : regT r m = regT r l) : m = l := by
  rw [regT_num m r hm, regT_num l r hl, ← hlen, hd, ← Nat.xor_assoc, zk_xor _ (r ^^^ num l)] at he
  have h0 : zk (8 * l.length) (2 ^ first * B) = 0 := by
    have := congrArg (zk (8 * l.length) (r ^^^ num l) ^^^ ·) he
    simpa [← Nat.xor_assoc] using this
  rw [show 8 * l.length = first + (8 * l.length - first) by omega, zk_add, zk_pow] at h0
  have hB0 := zk_inj _ hB h0
  subst hB0
  refine (num_inj _ _ hlen hl hm ?_).symm
  rw [hd]; simp

/-! Maps of registers, as told by what they make of each bit -/
structure Lin (f : Nat → Nat) : Prop where
  xor : ∀ a b, f (a ^^^ b) = f a ^^^ f b
  lt : ∀ {a}, a < 4294967296 → f a < 4294967296
theorem Lin.zero {f : Nat → Nat} (h : Lin f) : f 0 = 0 := by
  have := h.xor 0 0
  simpa using this
theorem lin_zk (k : Nat) : Lin (zk k) := ⟨zk_xor k, fun h => zk_lt k h⟩
def mat (f : Nat → Nat) : List Int := (List.range 32).map fun i => ((f (2 ^ i) : Nat) : Int)
end Go.Proofs.YtemfkgbbedlcaaaDoor.Abs.Crc

/- Plain facts on bits that are turned in a text. -/
namespace Go.Proofs.YtemfkgbbedlcaaaDoor.Abs.Crc
theorem pow_xor (k a b : Nat) : 2 ^ k * (a ^^^ b) = 2 ^ k * a ^^^ 2 ^ k * b := by
  have e : ∀ n : Nat, 2 ^ k * n = n <<< k := fun n => by rw [Nat.shiftLeft_eq, Nat.mul_comm]
  rw [e, e, e, Nat.shiftLeft_xor_distrib]
theorem num_set : ∀ (l : List Nat) (i d : Nat), i < l.length → num (l.set i (l.getD i 0 ^^^ d)) = num l ^^^ 2 ^ (8 * i) * d
  | [], i, d, h => by simp at h
  | c :: l, 0, d, _ => by
    simp only [List.set_cons_zero, List.getD_cons_zero, num, Nat.mul_zero, Nat.pow_zero, Nat.one_mul]
    ac_rfl
  | c :: l, i + 1, d, h => by
    have ih := num_set l i d (by simpa using h)
    simp only [List.set_cons_succ, List.getD_cons_succ, num]
    rw [ih, show (256 : Nat) = 2 ^ 8 from rfl, pow_xor, ← Nat.xor_assoc, ← Nat.mul_assoc, ← Nat.pow_add, show 8 + 8 * i = 8 * (i + 1) by omega]
def flip (l : List Nat) (p : Nat) : List Nat := l.set (p / 8) (l.getD (p / 8) 0 ^^^ 2 ^ (p % 8))
theorem flip_len (l : List Nat) (p : Nat) : (flip l p).length = l.length := by simp [flip]
theorem flip_num {l : List Nat} {p : Nat} (h : p < 8 * l.length) : num (flip l p) = num l ^^^ 2 ^ p := by
  unfold flip
  rw [num_set l (p / 8) (2 ^ (p % 8)) (by omega), ← Nat.pow_add, show 8 * (p / 8) + p % 8 = p by omega]
theorem flip_lt {l : List Nat} (hl : ∀ x ∈ l, x < 256) (p : Nat) : ∀ x ∈ flip l p, x < 256 := by
  intro x hx
  rcases List.mem_or_eq_of_mem_set hx with h | h
  · exact hl x h
  · subst h
    have h1 : l.getD (p / 8) 0 < 2 ^ 8 := by
      rw [List.getD_eq_getElem?_getD]
      cases hq : l[p / 8]? with
      | none => decide
      | some y => exact hl y (List.mem_of_getElem? hq)
    have h2 : 2 ^ (p % 8) < 2 ^ 8 := Nat.pow_lt_pow_right (by decide) (Nat.mod_lt _ (by decide))
    exact Nat.xor_lt_two_pow h1 h2
/-- What the rounds from k on make of a text. -/
structure Turned (l : List Nat) (first k : Nat) (m : List Nat) : Prop where
  len : m.length = l.length
  lt : ∀ x ∈ m, x < 256
  num : ∃ B, B < 2 ^ k ∧ num m = num l ^^^ 2 ^ first * B
theorem Turned.zero {l : List Nat} (hl : ∀ x ∈ l, x < 256) (first : Nat) : Turned l first 0 l := ⟨rfl, hl, 0, by simp, by simp⟩
theorem Turned.stay {l m : List Nat} {first k : Nat} (h : Turned l first k m) : Turned l first (k + 1) m := by
  obtain ⟨h1, h2, B, h3, h4⟩ := h
  exact ⟨h1, h2, B, by rw [Nat.pow_succ]; omega, h4⟩
theorem Turned.flip {l m : List Nat} {first k : Nat} (h : Turned l first k m) (hk : first + k < 8 * l.length) : Turned l first (k + 1) (flip m (first + k)) := by
  obtain ⟨h1, h2, B, h3, h4⟩ := h
  refine ⟨by rw [flip_len, h1], flip_lt h2 _, B ^^^ 2 ^ k, Nat.xor_lt_two_pow (by rw [Nat.pow_succ]; omega) (Nat.pow_lt_pow_right (by decide) (by omega)), ?_⟩
  rw [flip_num (by rw [h1]; exact hk), h4, pow_xor, ← Nat.pow_add, Nat.xor_assoc]
theorem Turned.told {l m : List Nat} {first : Nat} (hl : ∀ x ∈ l, x < 256) (h : Turned l first 32 m) (hf : first ≤ 8 * l.length) (r : Nat) (he : regT r m = regT r l) : m = l := by
  obtain ⟨h1, h2, B, h3, h4⟩ := h
  exact burst hl h2 h1.symm (by simpa using h3) hf h4 r he
theorem more_inj {s : Nat} {l m : List Nat} (h : more s m = more s l) : regT (M ^^^ s) m = regT (M ^^^ s) l := xor_right h
end Go.Proofs.YtemfkgbbedlcaaaDoor.Abs.Crc

namespace Go.Proofs.YtemfkgbbedlcaaaDoor.Abs.Seg03
open Go Go.RowKit Go.Proofs Go.Proofs.YtemfkgbbedlcaaaDoor.Abs Go.Proofs.YtemfkgbbedlcaaaDoor.Abs.Crc

theorem poly_eq : poly = 3988292384 := rfl
theorem M_eq : M = 4294967295 := rfl
def tabL : List Nat := [0, 498536548, 997073096, 651767980, 1994146192, 1802195444, 1303535960, 1342533948, 3988292384, 4027552580, 3604390888, 3412177804, 2607071920, 2262029012, 2685067896, 3183342108]
theorem tabL_tab : ∀ i, i < 16 → tabL.getD i 0 = tab i := by decide +kernel
theorem tabL_lt : ∀ x ∈ tabL, x < 4294967296 := by decide
theorem halves_ok : Pure Tryd.prog 21 [] (.agg (Row.cells (.ints .u32 (ii tabL))).toArray) :=
  f21.ok (f21.s1 rfl ⟨rfl, rfl⟩)

theorem and15 {n : Nat} (h : n < 4294967296) : Go.bits .and .u32 (n : Int) 15 = ((n % 16 : Nat) : Int) := by
  rw [show (15 : Int) = ((15 : Nat) : Int) from rfl, and_u32 h (by decide), show (15 : Nat) = 2 ^ 4 - 1 from rfl, Nat.and_two_pow_sub_one_eq_mod]
theorem xorM {n : Nat} (h : n < 4294967296) : Go.bits .xor .u32 4294967295 (n : Int) = ((M ^^^ n : Nat) : Int) := by
  rw [show (4294967295 : Int) = ((M : Nat) : Int) from rfl, xor_u32 M_lt h]
theorem zk8_lt {r c : Nat} (hr : r < 4294967296) (hc : c < 256) : zk 8 (r ^^^ c) < 4294967296 := zk_lt 8 (xlt hr (by omega))

theorem more_step {r c : Nat} (hr : r < 4294967296) (hc : c < 256) :
    let r1 := r / 16 ^^^ tab ((r ^^^ c) % 16)
    Go.bits .xor .u32 ((r : Int) / 2 ^ 4) (rd (ii tabL) (0 + (Int.toNat (Go.bits .and .u32 (Go.bits .xor .u32 (r : Int) (c : Int)) 15)) * 1)) = ((r1 : Nat) : Int) ∧ r1 < 4294967296 ∧ (r ^^^ c) < 4294967296 := by
  intro r1
  have h1 : r ^^^ c < 4294967296 := xlt hr (by omega)
  have h2 : tabL.getD ((r ^^^ c) % 16) 0 < 4294967296 := getD_lt_of tabL_lt (by decide)
  have h3 : r / 16 < 4294967296 := by omega
  have e : (r : Int) / 2 ^ 4 = ((r / 16 : Nat) : Int) := by simp
  refine ⟨?_, ?_, h1⟩
  · rw [xor_u32 hr (by omega), and15 h1, e, ii_rd, Nat.zero_add, Nat.mul_one, Int.toNat_natCast, xor_u32 h3 h2, tabL_tab _ (Nat.mod_lt _ (by decide))]
  · show _ ^^^ _ < _
    rw [← tabL_tab _ (Nat.mod_lt _ (by decide))]
    exact xlt h3 h2

theorem more_loop (x0 : Int) (s : ByteArray) : ∀ (k i r : Nat), i + k = s.size → s.size ≤ 9223372036854775807 → r < 4294967296 → f14.at1 x0 s r (s.size : Int) i (ii tabL) (.int .u32 ((M ^^^ regT r ((bys s).drop i) : Nat) : Int)) [] := by
  intro k
  induction k with
  | zero =>
    intro i r hi _ hr
    obtain rfl : i = s.size := by omega
    refine cst (f14.s3 (by simp)) ?_ rfl
    rw [xorM hr, List.drop_eq_nil_of_le (by rw [bys_len]; omega)]
    rfl
  | succ k ih =>
    intro i r hi hsz hr
    have hi2 : i < s.size := by omega
    have hc := bys_getD_lt s i
    obtain ⟨e1, h1, h2⟩ := more_step hr hc
    have e2 : ((((bys s).getD i 0 : Nat) : Int)) / 2 ^ 4 = (((bys s).getD i 0 / 16 : Nat) : Int) := by simp
    obtain ⟨e3, h3, h4⟩ := more_step (c := (bys s).getD i 0 / 16) h1 (by omega)
    have e4 : (i : Int) + 1 = ((i + 1 : Nat) : Int) := by simp
    refine f14.s2 (by simp; omega) (by omega) (by rw [bt_bys]; omega) ?_ ?_ ?_ ?_ (by omega) ?_
    · rw [bt_bys, xor_u32 hr (by omega), and15 h2]; omega
    · rw [bt_bys, xor_u32 hr (by omega), and15 h2, ii_len]; simp; exact Nat.mod_lt _ (by decide)
    · rw [bt_bys, e1, e2, xor_u32 h1 (by omega), and15 h4]; omega
    · rw [bt_bys, e1, e2, xor_u32 h1 (by omega), and15 h4, ii_len]; simp; exact Nat.mod_lt _ (by decide)
    · rw [bt_bys, e1, e2, e3, e4]
      have hh := Crc.halves r ((bys s).getD i 0) hc
      simp only at hh
      rw [hh]
      have := ih (i + 1) (zk 8 (r ^^^ (bys s).getD i 0)) (by omega) hsz (zk8_lt hr hc)
      rw [bys_drop hi2]
      exact this
theorem more_ok {x : Nat} (s : ByteArray) (hx : x < 4294967296) (hs : s.size ≤ 9223372036854775807) : Pure Tryd.prog 14 [.int .u32 x, .string s] (.int .u32 (more x (bys s) : Nat)) := by
  refine f14.ok (f14.s1 halves_ok rfl (by rfl) ?_)
  rw [xorM hx]
  exact more_loop x s s.size 0 _ (by omega) hs (xlt M_lt hx)
theorem sum_ok (s : ByteArray) (hs : s.size ≤ 9223372036854775807) : Pure Tryd.prog 12 [.string s] (.int .u32 (sumT (bys s) : Nat)) :=
  f12.ok (f12.s1 (more_ok (x := 0) s (by decide) hs))

theorem st_eq {r : Nat} (hr : r < 4294967296) (b : Nat) (hb : b < 2) : st r b = (if r % 2 = b then r / 2 else r / 2 ^^^ poly) := by
  unfold st z
  have h1 : b % 2 = b := Nat.mod_eq_of_lt hb
  rw [h1, xor_div2, xor_mod2, h1, Nat.div_eq_of_lt hb, Nat.xor_zero]
  rcases Nat.mod_two_eq_zero_or_one r with p | p <;> rcases (show b = 0 ∨ b = 1 by omega) with q | q <;> simp [p, q]
theorem st_lt {r : Nat} (hr : r < 4294967296) (b : Nat) : st r b < 4294967296 := z_lt (xlt hr (by omega))
theorem rstep_ok {r : Nat} (hr : r < 4294967296) (x : Int) : Pure Tryd.prog 17 [.int .u32 r, .int .i64 x] (.int .u32 (st r (x % 2).toNat : Nat)) := by
  have hm : (Int.tmod x 2 = 0) ↔ (x % 2).toNat = 0 := by rw [Int.tmod_eq_emod]; split <;> simp_all <;> omega
  have hd : (r : Int) / 2 = ((r / 2 : Nat) : Int) := by simp
  have hr2 : (r : Int) % 2 = ((r % 2 : Nat) : Int) := by simp
  refine f17.ok ?_
  rw [st_eq hr _ (by omega)]
  by_cases hb : (x % 2).toNat = 0
  · rw [hb]
    by_cases h0 : r % 2 = 0
    · refine cst (f17.s4 (by simp; exact hm.2 hb) (by omega) (by rw [hr2, h0]; rfl) (by omega)) ?_ rfl
      rw [if_pos h0, hd]
    · refine cst (f17.s2 (by simp; exact hm.2 hb) (by omega) (by rw [hr2]; simp; omega) (by omega)) ?_ rfl
      rw [if_neg h0, hd, show (3988292384 : Int) = ((poly : Nat) : Int) from rfl, xor_u32 (by omega) (by decide)]
  · have hb1 : (x % 2).toNat = 1 := by omega
    have hx : ¬ (Int.tmod x 2 = 0) := fun e => hb (hm.1 e)
    rw [hb1]
    by_cases h0 : r % 2 = 1
    · refine cst (f17.s3 (by simp; exact hx) (by omega) (by rw [hr2, h0]; rfl) (by omega)) ?_ rfl
      rw [if_pos h0, hd]
    · refine cst (f17.s1 (by simp; exact hx) (by omega) (by rw [hr2]; simp; omega) (by omega)) ?_ rfl
      rw [if_neg h0, hd, show (3988292384 : Int) = ((poly : Nat) : Int) from rfl, xor_u32 (by omega) (by decide)]

theorem reg_byte (x0 : Int) (s : ByteArray) (i : Nat) (hi : i < s.size) (hsz : s.size ≤ 9223372036854775807) {v : Value} {H : Heap} : ∀ (k j r c : Nat), j + k = 8 → c < 256 → r < 4294967296 →
    f22.at1 x0 s (bitsR k r c : Nat) ((i + 1 : Nat) : Int) v H → f22.at2 x0 s r i c j v H := by
  intro k
  induction k with
  | zero =>
    intro j r c hj _ hr hE
    obtain rfl : j = 8 := by omega
    exact f22.s5 (by simp) (by omega) hE
  | succ k ih =>
    intro j r c hj hc hr hE
    have hd : (c : Int) / 2 = ((c / 2 : Nat) : Int) := by simp
    have e1 : (j : Int) + 1 = ((j + 1 : Nat) : Int) := by simp
    have hs := rstep_ok hr ((c : Int) % 2)
    have e2 : (((c : Int) % 2) % 2).toNat = c % 2 := by omega
    rw [e2] at hs
    have e3 : st r (c % 2) = st r c := by unfold st; rw [Nat.mod_mod]
    rw [e3] at hs
    refine f22.s4 (by simp; omega) (by omega) hs (by omega) (by omega) ?_
    rw [hd, e1]
    exact ih (j + 1) (st r c) (c / 2) (by omega) (by omega) (st_lt hr c) hE
theorem reg_loop (x0 : Int) (s : ByteArray) (hsz : s.size ≤ 9223372036854775807) : ∀ (k i r : Nat), i + k = s.size → r < 4294967296 → f22.at1 x0 s r i (.int .u32 (regT r ((bys s).drop i) : Nat)) [] := by
  intro k
  induction k with
  | zero =>
    intro i r hi hr
    obtain rfl : i = s.size := by omega
    refine cst (f22.s3 (by simp)) ?_ rfl
    rw [List.drop_eq_nil_of_le (by rw [bys_len]; omega)]
    rfl
  | succ k ih =>
    intro i r hi hr
    have hi2 : i < s.size := by omega
    have hc := bys_getD_lt s i
    refine f22.s2 (by simp; omega) (by omega) (by rw [bt_bys]; omega) ?_
    rw [bt_bys]
    refine reg_byte x0 s i hi2 hsz 8 0 r _ rfl hc hr ?_
    rw [bitsR_eq 8 r _ hc]
    have := ih (i + 1) (zk 8 (r ^^^ (bys s).getD i 0)) (by omega) (zk8_lt hr hc)
    rw [bys_drop hi2]
    exact this
theorem reg_ok {r : Nat} (s : ByteArray) (hr : r < 4294967296) (hsz : s.size ≤ 9223372036854775807) : Pure Tryd.prog 22 [.int .u32 r, .string s] (.int .u32 (regT r (bys s) : Nat)) :=
  f22.ok (f22.s1 (reg_loop r s hsz s.size 0 r (by omega) hr))
theorem subM {n : Nat} (h : n < 4294967296) : wrapE .u32 (4294967295 - (n : Int)) = ((M ^^^ n : Nat) : Int) := by
  rw [← M_sub h, w32i, M_eq]
  omega
theorem rmore_ok {x : Nat} (s : ByteArray) (hx : x < 4294967296) (hs : s.size ≤ 9223372036854775807) : Pure Tryd.prog 15 [.int .u32 x, .string s] (.int .u32 (more x (bys s) : Nat)) := by
  refine f15.ok (cst (f15.s1 (by rw [subM hx]; exact reg_ok s (xlt M_lt hx) hs)) ?_ rfl)
  rw [subM (regT_lt _ (bys_lt s) (xlt M_lt hx))]
  rfl
theorem rsum_ok (s : ByteArray) (hs : s.size ≤ 9223372036854775807) : Pure Tryd.prog 13 [.string s] (.int .u32 (sumT (bys s) : Nat)) :=
  f13.ok (f13.s1 (rmore_ok (x := 0) s (by decide) hs))
end Go.Proofs.YtemfkgbbedlcaaaDoor.Abs.Seg03

namespace Go.Proofs.YtemfkgbbedlcaaaDoor.Abs.Seg03
open Go Go.RowKit Go.Proofs Go.Proofs.YtemfkgbbedlcaaaDoor.Abs Go.Shelf

def ren28 : Ren := ⟨fun _ => 26, fun t => if t = 25 then 28 else if t = 27 then 22 else if t = 53 then 45 else t, fun _ => 0⟩
theorem lays28 : Lays7.n28 Tryd.prog ren28 :=
  ⟨by kernel_rfl, by kernel_rfl, by kernel_rfl, fun w => by kernel_rfl, fun w => by kernel_rfl, fun w => by kernel_rfl, by kernel_rfl, by kernel_rfl, fun w => by kernel_rfl, fun w => by kernel_rfl, fun w => by kernel_rfl, by kernel_rfl, by kernel_rfl, fun w => by kernel_rfl, fun w => by kernel_rfl, fun w => by kernel_rfl, by kernel_rfl, by kernel_rfl, fun w => by kernel_rfl, fun w => by kernel_rfl, fun w => by kernel_rfl, by kernel_rfl, by kernel_rfl, fun w => by kernel_rfl, fun w => by kernel_rfl, fun w => by kernel_rfl, by kernel_rfl, by kernel_rfl, fun w => by kernel_rfl, fun w => by kernel_rfl, fun w => by kernel_rfl, by kernel_rfl, by kernel_rfl, fun w => by kernel_rfl, fun w => by kernel_rfl, fun w => by kernel_rfl, by kernel_rfl, by kernel_rfl⟩

def tz32L : List Nat := Lib.deBruijn32tab
def tz32 : List Int := ii tz32L
abbrev tzB : Option Blk := some ⟨false, 1000000000, .ints .u8 tz32⟩
theorem tz_ok (x : Nat) (hx : x < 4294967296) : FnOk Tryd.prog 26 [.int .u32 x] [tzB] (.int .i64 (Lib.ctz 32 x)) [tzB] := by
  refine ⟨⟨Tryd.f26, Tryd.func26, by kernel_rfl, by kernel_rfl⟩, fun β vs w hvs hR => ?_⟩
  cases hvs with
  | cons hv h2 =>
    cases h2
    obtain rfl := V_int.1 hv
    have hβ := hR.glob 0 ⟨false, 1000000000, .ints .u8 tz32⟩ 0 rfl rfl rfl
    have hB := (hR.blk 0 ⟨false, 1000000000, .ints .u8 tz32⟩ _ rfl hβ).readable
    have hT : TabAt 0 Lib.deBruijn32tab w := by
      intro j hj
      have hc : (Row.ints .u8 tz32).cells[j]? = some (.int .u8 (Lib.deBruijn32tab.getD j 0)) := by
        simp only [Row.cells, tz32, ii, tz32L, List.getElem?_map, List.getElem?_eq_getElem hj, List.getD_eq_getElem?_getD]
        rfl
      obtain ⟨v', h1, h2⟩ := hB j _ hc
      have : v' = .int .u8 (Lib.deBruijn32tab.getD j 0) := h2
      rw [this] at h1
      rw [add_none rfl, Nat.zero_add] at h1
      exact h1
    refine (Any7.bits_TrailingZeros32 lays28 x hx w (fun _ => hT)).mono ?_
    rintro e w' ⟨rfl, rfl⟩
    exact ⟨β, _, rfl, V_int.2 rfl, Tr.refl hR⟩
end Go.Proofs.YtemfkgbbedlcaaaDoor.Abs.Seg03

