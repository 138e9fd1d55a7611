/- ChaCha20: what the functions of chacha and of its reference give. -/
import Derived.Test.YtmlkeklcbagdfaaLaSeg
set_option linter.unusedVariables false
set_option linter.unusedSimpArgs false
set_option maxRecDepth 100000
namespace Go.Proofs.Ytmlkeklcbagdfaa.Abs.Seg05
open Go Go.RowKit Go.Proofs Go.Proofs.Ytmlkeklcbagdfaa.Abs

/-! Plain: words, quarter turns -/
def rot (k x : Nat) : Nat := x * 2 ^ k % 4294967296 + x / 2 ^ (32 - k)
theorem rot_lt {k x : Nat} (hk : k ≤ 32) (hx : x < 4294967296) : rot k x < 4294967296 := by
  unfold rot
  have h1 : x * 2 ^ k % 4294967296 = 2 ^ k * (x % 2 ^ (32 - k)) := by
    have e : (4294967296 : Nat) = 2 ^ k * 2 ^ (32 - k) := by rw [← Nat.pow_add, show k + (32 - k) = 32 by omega]
    rw [e, Nat.mul_comm x, Nat.mul_mod_mul_left]
  have h2 : x / 2 ^ (32 - k) < 2 ^ k := by
    rw [Nat.div_lt_iff_lt_mul (Nat.two_pow_pos _), ← Nat.pow_add, show k + (32 - k) = 32 by omega]
    exact hx
  have h3 : x % 2 ^ (32 - k) < 2 ^ (32 - k) := Nat.mod_lt _ (Nat.two_pow_pos _)
  have h4 : 2 ^ k * (x % 2 ^ (32 - k) + 1) ≤ 2 ^ k * 2 ^ (32 - k) := Nat.mul_le_mul_left _ h3
  rw [← Nat.pow_add, show k + (32 - k) = 32 by omega, Nat.mul_add, Nat.mul_one] at h4
  rw [h1]
  have : (2 : Nat) ^ 32 = 4294967296 := by decide
  omega
theorem rot_or {k x : Nat} (hk : k ≤ 32) (hx : x < 4294967296) : (x * 2 ^ k % 4294967296) ||| (x / 2 ^ (32 - k)) = rot k x := by
  unfold rot
  have h1 : x * 2 ^ k % 4294967296 = 2 ^ k * (x % 2 ^ (32 - k)) := by
    have e : (4294967296 : Nat) = 2 ^ k * 2 ^ (32 - k) := by rw [← Nat.pow_add, show k + (32 - k) = 32 by omega]
    rw [e, Nat.mul_comm x, Nat.mul_mod_mul_left]
  have h2 : x / 2 ^ (32 - k) < 2 ^ k := by
    rw [Nat.div_lt_iff_lt_mul (Nat.two_pow_pos _), ← Nat.pow_add, show k + (32 - k) = 32 by omega]
    exact hx
  rw [h1]
  exact (Nat.two_pow_add_eq_or_of_lt h2 _).symm
def m32 (x : Nat) : Nat := x % 4294967296
theorem m32_lt (x : Nat) : m32 x < 4294967296 := Nat.mod_lt _ (by decide)
structure Q4 where
  a : Nat
  b : Nat
  c : Nat
  d : Nat
def qr (a b c d : Nat) : Q4 :=
  let a1 := m32 (a + b)
  let d1 := rot 16 (d ^^^ a1)
  let c1 := m32 (c + d1)
  let b1 := rot 12 (b ^^^ c1)
  let a2 := m32 (a1 + b1)
  let d2 := rot 8 (d1 ^^^ a2)
  let c2 := m32 (c1 + d2)
  ⟨a2, rot 7 (b1 ^^^ c2), c2, d2⟩
theorem xl {a b : Nat} (ha : a < 4294967296) (hb : b < 4294967296) : a ^^^ b < 4294967296 := Nat.xor_lt_two_pow (n := 32) ha hb
theorem qr_lt {a b c d : Nat} (ha : a < 4294967296) (hb : b < 4294967296) (hc : c < 4294967296) (hd : d < 4294967296) : (qr a b c d).a < 4294967296 ∧ (qr a b c d).b < 4294967296 ∧ (qr a b c d).c < 4294967296 ∧ (qr a b c d).d < 4294967296 :=
  have h1 := rot_lt (k := 16) (by decide) (xl hd (m32_lt (a + b)))
  have h2 := rot_lt (k := 12) (by decide) (xl hb (m32_lt (c + rot 16 (d ^^^ m32 (a + b)))))
  ⟨m32_lt _, rot_lt (by decide) (xl h2 (m32_lt _)), m32_lt _, rot_lt (by decide) (xl h1 (m32_lt _))⟩

def set4 (l : List Nat) (i j k m : Nat) (q : Q4) : List Nat := (((l.set i q.a).set j q.b).set k q.c).set m q.d
def quart (l : List Nat) (i j k m : Nat) : List Nat := set4 l i j k m (qr (l.getD i 0) (l.getD j 0) (l.getD k 0) (l.getD m 0))
theorem set4_len (l : List Nat) (i j k m : Nat) (q : Q4) : (set4 l i j k m q).length = l.length := by simp [set4]
theorem quart_len (l : List Nat) (i j k m : Nat) : (quart l i j k m).length = l.length := by simp [quart, set4_len]
theorem quart_lt {l : List Nat} (hl : ∀ x ∈ l, x < 4294967296) (i j k m : Nat) : ∀ x ∈ quart l i j k m, x < 4294967296 := by
  have g : ∀ i, l.getD i 0 < 4294967296 := fun i => getD_lt_of hl (by decide)
  obtain ⟨q1, q2, q3, q4⟩ := qr_lt (g i) (g j) (g k) (g m)
  intro x hx
  unfold quart set4 at hx
  rcases List.mem_or_eq_of_mem_set hx with hx | rfl
  · rcases List.mem_or_eq_of_mem_set hx with hx | rfl
    · rcases List.mem_or_eq_of_mem_set hx with hx | rfl
      · rcases List.mem_or_eq_of_mem_set hx with hx | rfl
        · exact hl x hx
        · exact q1
      · exact q2
    · exact q3
  · exact q4

/-! The functions -/
theorem and31 {k : Nat} (hk : k < 32) : Go.bits .and .u64 ((k : Nat) : Int) 31 = ((k : Nat) : Int) := by
  have := (bits_nat .u64 64 (by decide) (fun n h0 h1 => by rw [IntKind.wrap_u64]; omega) k 31 (by omega) (by decide)).1
  rw [show (31 : Int) = ((31 : Nat) : Int) from rfl, this, show (31 : Nat) = 2 ^ 5 - 1 from rfl, Nat.and_two_pow_sub_one_eq_mod, Nat.mod_eq_of_lt (by omega)]
theorem rot_ok {k x : Nat} (hk : k < 32) (hk0 : 0 < k) (hx : x < 4294967296) : Pure Try.prog 20 [.int .u32 x, .int .i64 k] (.int .u32 (rot k x : Nat)) := by
  have e1 : Go.bits .and .u64 (wrapE .u64 (k : Int)) 31 = (k : Int) := by rw [w64, Nat.mod_eq_of_lt (by omega), and31 hk]
  have e2 : wrapE .u64 (32 - (k : Int)) = ((32 - k : Nat) : Int) := by rw [w64i]; omega
  refine f20.ok (cst (f20.s1 (by rw [e1]; simp [IntKind.bits]; omega) (by rw [e1, e2]; simp [IntKind.bits]; omega)) ?_ rfl)
  rw [e1, e2, Int.toNat_natCast, Int.toNat_natCast, shl32, shr_n, or_u32 (Nat.mod_lt _ (by decide)) (Nat.lt_of_le_of_lt (Nat.div_le_self _ _) hx), rot_or (by omega) hx]
theorem left_ok {k x : Nat} (hk : k < 32) (hk0 : 0 < k) (hx : x < 4294967296) : Pure Try.prog 21 [.int .u32 x, .int .u64 k] (.int .u32 (rot k x : Nat)) := by
  have e2 : wrapE .u64 (32 - (k : Int)) = ((32 - k : Nat) : Int) := by rw [w64i]; omega
  refine f21.ok (cst (f21.s1 (by simp [IntKind.bits]; omega) (by rw [e2]; simp [IntKind.bits]; omega)) ?_ rfl)
  rw [e2, Int.toNat_natCast, Int.toNat_natCast, shl32, shr_n, add32]
  have := Nat.mod_eq_of_lt (rot_lt (k := k) (by omega) hx)
  unfold rot at this ⊢
  rw [this]
theorem quarter_ok {a b c d : Nat} (ha : a < 4294967296) (hb : b < 4294967296) (hc : c < 4294967296) (hd : d < 4294967296) :
    Pure Try.prog 9 [.int .u32 a, .int .u32 b, .int .u32 c, .int .u32 d] (.agg #[.int .u32 (qr a b c d).a, .int .u32 (qr a b c d).b, .int .u32 (qr a b c d).c, .int .u32 (qr a b c d).d]) := by
  have x1 := xl hd (m32_lt (a + b))
  have d1 := rot_lt (k := 16) (by decide) x1
  have x2 := xl hb (m32_lt (c + rot 16 (d ^^^ m32 (a + b))))
  have b1 := rot_lt (k := 12) (by decide) x2
  have x3 := xl d1 (m32_lt (m32 (a + b) + rot 12 (b ^^^ m32 (c + rot 16 (d ^^^ m32 (a + b))))))
  have d2 := rot_lt (k := 8) (by decide) x3
  have x4 := xl b1 (m32_lt (m32 (c + rot 16 (d ^^^ m32 (a + b))) + rot 8 (rot 16 (d ^^^ m32 (a + b)) ^^^ m32 (m32 (a + b) + rot 12 (b ^^^ m32 (c + rot 16 (d ^^^ m32 (a + b))))))))
  have ad : ∀ x y : Nat, wrapE .u32 ((x : Int) + (y : Int)) = ((m32 (x + y) : Nat) : Int) := add32
  refine f9.ok (cst (f9.s1 (r1 := ((rot 16 (d ^^^ m32 (a + b)) : Nat) : Int)) (r2 := ((rot 12 (b ^^^ m32 (c + rot 16 (d ^^^ m32 (a + b)))) : Nat) : Int)) (r3 := (((qr a b c d).d : Nat) : Int)) (r4 := (((qr a b c d).b : Nat) : Int)) ?_ ?_ ?_ ?_ rfl ⟨rfl, rfl⟩) ?_ rfl)
  · rw [ad, xor_u32 hd (m32_lt _)]; exact rot_ok (by decide) (by decide) x1
  · rw [ad, xor_u32 hb (m32_lt _)]; exact rot_ok (by decide) (by decide) x2
  · rw [ad, ad, xor_u32 d1 (m32_lt _)]; exact rot_ok (by decide) (by decide) x3
  · have e : ((qr a b c d).d) = rot 8 (rot 16 (d ^^^ m32 (a + b)) ^^^ m32 (m32 (a + b) + rot 12 (b ^^^ m32 (c + rot 16 (d ^^^ m32 (a + b)))))) := rfl
    rw [e, ad, ad, xor_u32 b1 (m32_lt _)]; exact rot_ok (by decide) (by decide) x4
  · have e : ((qr a b c d).d) = rot 8 (rot 16 (d ^^^ m32 (a + b)) ^^^ m32 (m32 (a + b) + rot 12 (b ^^^ m32 (c + rot 16 (d ^^^ m32 (a + b)))))) := rfl
    rw [ad, ad, ad, ad]
    rfl
theorem awake_ok : Pure Try.prog 11 [] (.bool true) := by
  have h := quarter_ok (a := 286331153) (b := 16909060) (c := 2609737539) (d := 19088743) (by decide) (by decide) (by decide) (by decide)
  have e1 : (qr 286331153 16909060 2609737539 19088743).a = 3928658676 := by decide +kernel
  have e2 : (qr 286331153 16909060 2609737539 19088743).b = 3407673550 := by decide +kernel
  have e3 : (qr 286331153 16909060 2609737539 19088743).c = 1166100270 := by decide +kernel
  have e4 : (qr 286331153 16909060 2609737539 19088743).d = 1484899515 := by decide +kernel
  rw [e1, e2, e3, e4] at h
  exact f11.ok (f11.s1 h rfl (by decide) (by rfl) (by decide) (by rfl) (by decide) (by rfl) (by decide))

/-! The document's quarter turn -/
def qAt (l : List Nat) (i j k m : Nat) (q : Q4) (x : Nat) : Nat := if x = m then q.d else if x = k then q.c else if x = j then q.b else if x = i then q.a else l.getD x 0
theorem qAt_set (l : List Nat) (i j k m : Nat) (q : Q4) : (List.range l.length).map (qAt l i j k m q) = set4 l i j k m q := by
  apply List.ext_getElem
  · simp [set4_len]
  · intro x h1 h2
    have hx : x < l.length := by simpa using h1
    simp only [List.getElem_map, List.getElem_range, set4, List.getElem_set, qAt]
    by_cases e1 : x = m
    · subst e1; simp
    · rw [if_neg e1, if_neg (Ne.symm e1)]
      by_cases e2 : x = k
      · subst e2; simp
      · rw [if_neg e2, if_neg (Ne.symm e2)]
        by_cases e3 : x = j
        · subst e3; simp
        · rw [if_neg e3, if_neg (Ne.symm e3)]
          by_cases e4 : x = i
          · subst e4; simp
          · rw [if_neg e4, if_neg (Ne.symm e4), List.getD_eq_getElem?_getD, List.getElem?_eq_getElem hx]; rfl
def build (f : Nat → Nat) (n : Nat) : List Nat := (List.range n).map f
theorem build_succ (f : Nat → Nat) (n : Nat) : ii (build f n) ++ List.take 1 (List.drop 0 [((f n : Nat) : Int)]) = ii (build f (n + 1)) := by simp [ii, build, List.range_succ]
theorem build_len (f : Nat → Nat) (n : Nat) : (build f n).length = n := by simp [build]
theorem rq_loop (l : List Nat) (i j k m : Nat) (hl : l.length < 1000000) (q : Q4) : ∀ (n x : Nat), x + n = l.length →
    f10t.at1 (ii l) 0 l.length (i : Nat) (j : Nat) (k : Nat) (m : Nat) (q.a : Nat) (q.b : Nat) (q.c : Nat) (q.d : Nat) x (x : Nat) (ii (build (qAt l i j k m q) x)) (.slice (some ⟨1, 0, none⟩) l.length 0) [some ⟨true, 22, .ints .u32 (ii l)⟩, some ⟨true, 22, .ints .u32 (ii (build (qAt l i j k m q) l.length))⟩] := by
  intro n
  induction n with
  | zero =>
    intro x hx
    obtain rfl : x = l.length := by omega
    exact f10t.s3 (by simp)
  | succ n ih =>
    intro x hx
    have h1 : (decide ((x : Int) < ((l.length : Nat) : Int))) = true := by simp; omega
    have h2 : (0 : Int) ≤ (x : Int) ∧ ((x : Int) : Int) < ((l.length : Nat) : Int) := by omega
    have h3 : 0 + ((Int.toNat (x : Int)) * 1) < List.length (ii l) := by rw [ii_len]; simp; omega
    have h8 : ∀ z : Int, (1 : Nat) ≤ Row.len (.ints .u32 [z]) := fun z => by simp [Row.len]
    have h9 : (x : Nat) = Row.len (.ints .u32 (ii (build (qAt l i j k m q) x))) ∧ (x + 1 : Nat) ≤ 9223372036854775807 ∧ (x + 1) * 4 ≤ 140737488355328 := by
      refine ⟨by simp [Row.len, ii_len, build_len], by omega, by omega⟩
    have h10 : (-9223372036854775808 : Int) ≤ (x : Int) + 1 ∧ ((x : Int) + 1 : Int) ≤ 9223372036854775807 := by omega
    have e1 : (x : Int) + 1 = ((x + 1 : Nat) : Int) := by simp
    have tr : ∀ y : Nat, x = y → (decide ((x : Int) = (y : Int))) = true := fun y h => by simp [h]
    have fa : ∀ y : Nat, ¬ x = y → (decide ((x : Int) = (y : Int))) = false := fun y h => by simp; omega
    have next := ih (x + 1) (by omega)
    rw [← build_succ (qAt l i j k m q) x, ← e1] at next
    by_cases p4 : x = m
    · have e : qAt l i j k m q x = q.d := by simp [qAt, p4]
      rw [e] at next
      by_cases p1 : x = i <;> by_cases p2 : x = j <;> by_cases p3 : x = k
      · exact f10t.s2 h1 h2 h3 (tr _ p1) (tr _ p2) (tr _ p3) (tr _ p4) (h8 _) h9 h10 next
      · exact f10t.s6 h1 h2 h3 (tr _ p1) (tr _ p2) (fa _ p3) (tr _ p4) (h8 _) h9 h10 next
      · exact f10t.s5 h1 h2 h3 (tr _ p1) (fa _ p2) (tr _ p3) (tr _ p4) (h8 _) h9 h10 next
      · exact f10t.s11 h1 h2 h3 (tr _ p1) (fa _ p2) (fa _ p3) (tr _ p4) (h8 _) h9 h10 next
      · exact f10t.s4 h1 h2 h3 (fa _ p1) (tr _ p2) (tr _ p3) (tr _ p4) (h8 _) h9 h10 next
      · exact f10t.s9 h1 h2 h3 (fa _ p1) (tr _ p2) (fa _ p3) (tr _ p4) (h8 _) h9 h10 next
      · exact f10t.s8 h1 h2 h3 (fa _ p1) (fa _ p2) (tr _ p3) (tr _ p4) (h8 _) h9 h10 next
      · exact f10t.s14 h1 h2 h3 (fa _ p1) (fa _ p2) (fa _ p3) (tr _ p4) (h8 _) h9 h10 next
    · by_cases p3 : x = k
      · have e : qAt l i j k m q x = q.c := by simp only [qAt, p4, p3, if_true, if_false]; rw [if_neg (by omega)]
        rw [e] at next
        by_cases p1 : x = i <;> by_cases p2 : x = j
        · exact f10t.s7 h1 h2 h3 (tr _ p1) (tr _ p2) (tr _ p3) (fa _ p4) (h8 _) h9 h10 next
        · exact f10t.s12 h1 h2 h3 (tr _ p1) (fa _ p2) (tr _ p3) (fa _ p4) (h8 _) h9 h10 next
        · exact f10t.s10 h1 h2 h3 (fa _ p1) (tr _ p2) (tr _ p3) (fa _ p4) (h8 _) h9 h10 next
        · exact f10t.s15 h1 h2 h3 (fa _ p1) (fa _ p2) (tr _ p3) (fa _ p4) (h8 _) h9 h10 next
      · by_cases p2 : x = j
        · have e : qAt l i j k m q x = q.b := by simp only [qAt, p4, p3, p2, if_true, if_false]; rw [if_neg (by omega), if_neg (by omega)]
          rw [e] at next
          by_cases p1 : x = i
          · exact f10t.s13 h1 h2 h3 (tr _ p1) (tr _ p2) (fa _ p3) (fa _ p4) (h8 _) h9 h10 next
          · exact f10t.s16 h1 h2 h3 (fa _ p1) (tr _ p2) (fa _ p3) (fa _ p4) (h8 _) h9 h10 next
        · by_cases p1 : x = i
          · have e : qAt l i j k m q x = q.a := by simp only [qAt, p4, p3, p2, p1, if_true, if_false]; rw [if_neg (by omega), if_neg (by omega), if_neg (by omega)]
            rw [e] at next
            exact f10t.s17 h1 h2 h3 (tr _ p1) (fa _ p2) (fa _ p3) (fa _ p4) (h8 _) h9 h10 next
          · have e : qAt l i j k m q x = l.getD x 0 := by simp only [qAt, p4, p3, p2, p1, if_false]
            rw [e] at next
            refine f10t.s18 h1 h2 h3 (fa _ p1) (fa _ p2) (fa _ p3) (fa _ p4) (h8 _) h9 h10 ?_
            rw [Int.toNat_natCast, Nat.zero_add, Nat.mul_one, ii_rd]
            exact next
theorem rq_ok {l : List Nat} (hl : ∀ x ∈ l, x < 4294967296) (hn : l.length < 1000000) {i j k m : Nat} (hi : i < l.length) (hj : j < l.length) (hk : k < l.length) (hm : m < l.length) :
    FnOk Try.prog 10 [.slice (some ⟨0, 0, none⟩) l.length 0, .int .i64 i, .int .i64 j, .int .i64 k, .int .i64 m] [some ⟨true, 22, .ints .u32 (ii l)⟩] (.slice (some ⟨1, 0, none⟩) l.length 0) [some ⟨true, 22, .ints .u32 (ii l)⟩, some ⟨true, 22, .ints .u32 (ii (quart l i j k m))⟩] := by
  have g : ∀ i, l.getD i 0 < 4294967296 := fun i => getD_lt_of hl (by decide)
  have ix : ∀ y : Nat, y < l.length → 0 + ((Int.toNat (y : Int)) * 1) < List.length (ii l) := fun y h => by rw [ii_len]; simp; omega
  have rdd : ∀ y : Nat, rd (ii l) (0 + ((Int.toNat (y : Int)) * 1)) = ((l.getD y 0 : Nat) : Int) := fun y => by rw [Int.toNat_natCast, Nat.zero_add, Nat.mul_one, ii_rd]
  generalize ha : l.getD i 0 = a
  generalize hb : l.getD j 0 = b
  generalize hc : l.getD k 0 = c
  generalize hd : l.getD m 0 = d
  have ga : a < 4294967296 := ha ▸ g i
  have gb : b < 4294967296 := hb ▸ g j
  have gc : c < 4294967296 := hc ▸ g k
  have gd : d < 4294967296 := hd ▸ g m
  have x1 := xl gd (m32_lt (a + b))
  have d1 := rot_lt (k := 16) (by decide) x1
  have x2 := xl gb (m32_lt (c + rot 16 (d ^^^ m32 (a + b))))
  have b1 := rot_lt (k := 12) (by decide) x2
  have x3 := xl d1 (m32_lt (m32 (a + b) + rot 12 (b ^^^ m32 (c + rot 16 (d ^^^ m32 (a + b))))))
  have d2 := rot_lt (k := 8) (by decide) x3
  have x4 := xl b1 (m32_lt (m32 (c + rot 16 (d ^^^ m32 (a + b))) + rot 8 (rot 16 (d ^^^ m32 (a + b)) ^^^ m32 (m32 (a + b) + rot 12 (b ^^^ m32 (c + rot 16 (d ^^^ m32 (a + b))))))))
  have ad : ∀ x y : Nat, wrapE .u32 ((x : Int) + (y : Int)) = ((m32 (x + y) : Nat) : Int) := add32
  have eq : qr (l.getD i 0) (l.getD j 0) (l.getD k 0) (l.getD m 0) = qr a b c d := by rw [ha, hb, hc, hd]
  refine f10t.ok (f10t.s1 (r1 := ((rot 16 (d ^^^ m32 (a + b)) : Nat) : Int)) (r2 := ((rot 12 (b ^^^ m32 (c + rot 16 (d ^^^ m32 (a + b)))) : Nat) : Int)) (r3 := (((qr a b c d).d : Nat) : Int)) (r4 := (((qr a b c d).b : Nat) : Int)) (by omega) (ix i hi) (by omega) (ix j hj) (by omega) (ix k hk) (by omega) (ix m hm) ?_ ?_ ?_ ?_ ?_)
  · rw [rdd, rdd, rdd, ha, hb, hd, ad, xor_u32 gd (m32_lt _)]; exact left_ok (by decide) (by decide) x1
  · rw [rdd, rdd, hb, hc, ad, xor_u32 gb (m32_lt _)]; exact left_ok (by decide) (by decide) x2
  · rw [rdd, rdd, ha, hb, ad, ad, xor_u32 d1 (m32_lt _)]; exact left_ok (by decide) (by decide) x3
  · have e : ((qr a b c d).d) = rot 8 (rot 16 (d ^^^ m32 (a + b)) ^^^ m32 (m32 (a + b) + rot 12 (b ^^^ m32 (c + rot 16 (d ^^^ m32 (a + b)))))) := rfl
    rw [rdd, hc, e, ad, ad, xor_u32 b1 (m32_lt _)]; exact left_ok (by decide) (by decide) x4
  · have := rq_loop l i j k m hn (qr a b c d) l.length 0 (by omega)
    rw [show build (qAt l i j k m (qr a b c d)) l.length = set4 l i j k m (qr a b c d) from qAt_set l i j k m _] at this
    rw [rdd, rdd, rdd, ha, hb, hc, ad, ad, ad, ad]
    unfold quart
    rw [eq]
    exact this
theorem quarters_ok {a b c d : Nat} (ha : a < 4294967296) (hb : b < 4294967296) (hc : c < 4294967296) (hd : d < 4294967296) :
    Pure Try.prog 3 [.agg #[.int .u32 a, .int .u32 b, .int .u32 c, .int .u32 d]] (.bool true) := by
  have hl : ∀ x ∈ [a, b, c, d], x < 4294967296 := by intro x hx; simp at hx; omega
  have hr := rq_ok hl (by simp) (i := 0) (j := 1) (k := 2) (m := 3) (by simp) (by simp) (by simp) (by simp)
  have e : quart [a, b, c, d] 0 1 2 3 = [(qr a b c d).a, (qr a b c d).b, (qr a b c d).c, (qr a b c d).d] := rfl
  rw [e] at hr
  refine f3.ok (cst (f3.s1 (ys5 := ii [(qr a b c d).a, (qr a b c d).b, (qr a b c d).c, (qr a b c d).d]) (by simp [ii]) (by simp [ii]) (by simp [ii]) (by simp [ii]) (quarter_ok ha hb hc hd) rfl hr awake_ok rfl (by rfl) (by simp) (by simp [ii]) (by simp [ii]) (by simp [ii, rd]) (by simp) (by simp [ii]) (by simp [ii]) (by simp [ii, rd]) (by simp) (by simp [ii]) (by simp [ii]) (by simp [ii, rd]) (by simp) (by simp [ii]) (by simp [ii])) ?_ rfl)
  simp [ii, rd]
theorem quarters_row (a0 : Int) (w0 : (Lit.int .u32 a0).wf = true) (a1 : Int) (w1 : (Lit.int .u32 a1).wf = true) (a2 : Int) (w2 : (Lit.int .u32 a2).wf = true) (a3 : Int) (w3 : (Lit.int .u32 a3).wf = true) :
    FnOk Try.prog 3 [.agg #[.int .u32 a0, .int .u32 a1, .int .u32 a2, .int .u32 a3]] [] (.bool true) [] := by
  obtain ⟨a, rfl, ha⟩ := wfu32 w0
  obtain ⟨b, rfl, hb⟩ := wfu32 w1
  obtain ⟨c, rfl, hc⟩ := wfu32 w2
  obtain ⟨d, rfl, hd⟩ := wfu32 w3
  exact quarters_ok ha hb hc hd
end Go.Proofs.Ytmlkeklcbagdfaa.Abs.Seg05

