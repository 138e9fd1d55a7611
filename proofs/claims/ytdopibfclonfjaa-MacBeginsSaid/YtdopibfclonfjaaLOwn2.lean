/- HMAC and HKDF: what the functions of mac and of its reference give. -/
import Derived.Test.YtdopibfclonfjaaLOwn
set_option linter.unusedVariables false
set_option linter.unusedSimpArgs false
set_option maxRecDepth 100000
namespace Go.Proofs.Ytdopibfclonfjaa.Abs.Dg
open Go Go.RowKit Go.Proofs Go.Proofs.Ytdopibfclonfjaa.Abs

/-! ### HMAC and HKDF on naturals -/
def key0 (k : List Nat) : List Nat := if 64 < k.length then sha k else k
theorem key0_lt {k : List Nat} (h : ∀ x ∈ k, x < 256) : ∀ x ∈ key0 k, x < 256 := by
  unfold key0; split
  · exact sha_lt _
  · exact h
theorem key0_len (k : List Nat) : (key0 k).length ≤ 64 := by
  unfold key0; split
  · rw [sha_len]; decide
  · omega
def padM (k : List Nat) (c : Nat) : List Nat := build (fun i => (key0 k).getD i 0 ^^^ c) 64
theorem x8 {a b : Nat} (ha : a < 256) (hb : b < 256) : a ^^^ b < 256 := Nat.xor_lt_two_pow (n := 8) ha hb
theorem padM_lt {k : List Nat} (h : ∀ x ∈ k, x < 256) {c : Nat} (hc : c < 256) : ∀ x ∈ padM k c, x < 256 := by
  intro x hx
  simp only [padM, build, List.mem_map] at hx
  obtain ⟨i, _, rfl⟩ := hx
  exact x8 (byte_lt (key0_lt h) i) hc
theorem padM_len (k : List Nat) (c : Nat) : (padM k c).length = 64 := build_len _ _
def code (k t : List Nat) : List Nat := sha (padM k 92 ++ sha (padM k 54 ++ t))
theorem code_lt (k t : List Nat) : ∀ x ∈ code k t, x < 256 := sha_lt _
theorem code_len (k t : List Nat) : (code k t).length = 32 := sha_len _
def lastE (k l : List Nat) : Nat → List Nat
  | 0 => []
  | n + 1 => code k (lastE k l n ++ l ++ [(n + 1) % 256])
def allE (k l : List Nat) : Nat → List Nat
  | 0 => []
  | n + 1 => allE k l n ++ lastE k l (n + 1)
theorem lastE_succ (k l : List Nat) (n : Nat) : lastE k l (n + 1) = code k (lastE k l n ++ l ++ [(n + 1) % 256]) := by rw [lastE]
theorem allE_succ (k l : List Nat) (n : Nat) : allE k l (n + 1) = allE k l n ++ lastE k l (n + 1) := by rw [allE]
theorem lastE_lt (k l : List Nat) (n : Nat) : ∀ x ∈ lastE k l n, x < 256 := by
  cases n with
  | zero => intro x hx; simp [lastE] at hx
  | succ n => rw [lastE_succ]; exact code_lt _ _
theorem lastE_len (k l : List Nat) (n : Nat) : (lastE k l n).length ≤ 32 := by
  cases n with
  | zero => simp [lastE]
  | succ n => rw [lastE_succ, code_len]; exact Nat.le_refl _
theorem allE_len (k l : List Nat) (n : Nat) : (allE k l n).length = 32 * n := by
  induction n with
  | zero => simp [allE]
  | succ n ih => rw [allE_succ, List.length_append, ih, lastE_succ, code_len]; omega
theorem app_lt {l m : List Nat} (h1 : ∀ x ∈ l, x < 256) (h2 : ∀ x ∈ m, x < 256) : ∀ x ∈ l ++ m, x < 256 := by
  intro x hx
  rw [List.mem_append] at hx
  cases hx with
  | inl h => exact h1 x h
  | inr h => exact h2 x h
theorem allE_lt (k l : List Nat) (n : Nat) : ∀ x ∈ allE k l n, x < 256 := by
  induction n with
  | zero => intro x hx; simp [allE] at hx
  | succ n ih => rw [allE_succ]; exact app_lt ih (lastE_lt _ _ _)
def expand (k l : List Nat) (n : Nat) : List Nat := (allE k l ((n + 31) / 32)).take n
theorem expand_lt (k l : List Nat) (n : Nat) : ∀ x ∈ expand k l n, x < 256 := fun x hx => allE_lt _ _ _ x (List.mem_of_mem_take hx)
theorem expand_len (k l : List Nat) (n : Nat) : (expand k l n).length = n := by rw [expand, List.length_take, allE_len]; omega
theorem allE_pre (k l : List Nat) (a b : Nat) : (allE k l (a + b)).take (32 * a) = allE k l a := by
  induction b with
  | zero => rw [Nat.add_zero, List.take_of_length_le (by rw [allE_len]; exact Nat.le_refl _)]
  | succ b ih => rw [← Nat.add_assoc, allE_succ, List.take_append_of_le_length (by rw [allE_len]; omega), ih]
theorem expand_pre (k l : List Nat) (n m : Nat) (h : n ≤ m) : (expand k l m).take n = expand k l n := by
  unfold expand
  rw [List.take_take, Nat.min_eq_left h]
  obtain ⟨b, hb⟩ : ∃ b, (m + 31) / 32 = (n + 31) / 32 + b := ⟨(m + 31) / 32 - (n + 31) / 32, by omega⟩
  rw [hb, ← allE_pre k l ((n + 31) / 32) b, List.take_take, Nat.min_eq_left (by omega)]
def extractT (salt secret : List Nat) : List Nat := if salt = [] then code (List.replicate 32 0) secret else code salt secret
theorem extractT_lt (a b : List Nat) : ∀ x ∈ extractT a b, x < 256 := by unfold extractT; split <;> exact code_lt _ _
theorem extractT_len (a b : List Nat) : (extractT a b).length = 32 := by unfold extractT; split <;> exact code_len _ _
def num (x : Int) : Nat := (x % 18446744073709551616).toNat
def keyT (secret label : List Nat) (x : Int) : List Nat := expand (extractT [] secret) (label ++ [0] ++ be8 (num x)) 32
end Go.Proofs.Ytdopibfclonfjaa.Abs.Dg

namespace Go.Proofs.Ytdopibfclonfjaa.Abs.Seg04
open Go Go.RowKit Go.Proofs Go.Proofs.Ytdopibfclonfjaa.Abs Go.Proofs.Ytdopibfclonfjaa.Abs.Dg Go.Shelf

/-! The key's block -/
def mix (g : Nat → Nat) (c i : Nat) : List Nat := build (fun j => if j < i then g j ^^^ c else g j) 64
theorem mix_len (g : Nat → Nat) (c i : Nat) : (mix g c i).length = 64 := build_len _ _
theorem mix_get (g : Nat → Nat) (c i : Nat) (h : i < 64) : (mix g c i).getD i 0 = g i := by
  rw [mix, build_get _ _ _ h, if_neg (Nat.lt_irrefl _)]
theorem mix_set (g : Nat → Nat) (c i : Nat) (h : i < 64) : (mix g c i).set i (g i ^^^ c) = mix g c (i + 1) := by
  apply List.ext_getElem
  · rw [List.length_set, mix_len, mix_len]
  · intro j h1 h2
    have hj : j < 64 := by rw [mix_len] at h2; exact h2
    rw [List.getElem_set]
    by_cases e : i = j
    · subst e
      rw [if_pos rfl]
      simp [mix, build]
    · rw [if_neg e]
      simp only [mix, build, List.getElem_map, List.getElem_range]
      by_cases e2 : j < i
      · rw [if_pos e2, if_pos (by omega)]
      · rw [if_neg e2, if_neg (by omega)]
theorem fill_eq (l : List Nat) (h : l.length ≤ 64) : l.take 64 ++ (List.replicate 64 0).drop (min l.length 64) = mix (fun j => l.getD j 0) 0 0 := by
  apply List.ext_getElem
  · rw [mix_len, List.length_append, List.length_take, List.length_drop, List.length_replicate]; omega
  · intro j h1 h2
    have hj : j < 64 := by rw [mix_len] at h2; exact h2
    simp only [mix, build, List.getElem_map, List.getElem_range, Nat.not_lt_zero, if_false]
    rw [List.getElem_append]
    split
    · rename_i hlt
      rw [List.length_take] at hlt
      rw [List.getElem_take, List.getD_eq_getElem?_getD, List.getElem?_eq_getElem (by omega)]; rfl
    · rename_i hge
      rw [List.length_take] at hge
      rw [List.getElem_drop, List.getElem_replicate, List.getD_eq_getElem?_getD, List.getElem?_eq_none (by omega)]; rfl
theorem mix_zero (g : Nat → Nat) (c d : Nat) : mix g c 0 = mix g d 0 := by simp [mix]
theorem pad_loop (s : ByteArray) (s4 : ByteArray) (g : Nat → Nat) (hg : ∀ i, g i < 256) {c : Nat} (hc : c < 256) : ∀ k i, i + k = 64 → f34.at1 s (c : Nat) s4 (i : Nat) (ii (mix g c i)) (.string (txt (mix g c 64))) [] := by
  intro k
  induction k with
  | zero =>
    intro i hi
    obtain rfl : i = 64 := by omega
    refine cst (f34.s4 (by decide) (by rw [ii_len, mix_len]; decide)) ?_ rfl
    rw [List.drop_zero, ii_take, List.take_of_length_le (by rw [mix_len]; exact Nat.le_refl _)]
    rfl
  | succ k ih =>
    intro i hi
    have e1 : ∀ y : Nat, 0 + (Int.toNat (y : Int)) * 1 = y := fun y => by simp
    refine f34.s3 (by simp; omega) (by omega) (by rw [e1, ii_len, mix_len]; omega) (by omega) ?_
    rw [e1, ii_rd, mix_get _ _ _ (by omega), xor_u8 (hg i) hc, ii_set, mix_set _ _ _ (by omega), show (i : Int) + 1 = ((i + 1 : Nat) : Int) by simp]
    exact ih (i + 1) (by omega)
theorem mix_all (g : Nat → Nat) (c : Nat) : mix g c 64 = build (fun i => g i ^^^ c) 64 := by
  unfold mix build
  apply List.map_congr_left
  intro j hj
  rw [if_pos (List.mem_range.1 hj)]
theorem zero_ii : List.replicate 64 (0 : Int) = ii (List.replicate 64 0) := ii_rep 64
theorem pad_ok (s : ByteArray) (hs : s.size < 1000000000) {c : Nat} (hc : c < 256) : Pure Try.prog 34 [.string s, .int .u8 c] (.string (txt (padM (bys s) c))) := by
  have hp : padM (bys s) c = mix (fun i => (key0 (bys s)).getD i 0) c 64 := by rw [mix_all]; rfl
  have hl := pad_loop s ⟨#[]⟩ (fun i => (key0 (bys s)).getD i 0) (fun i => byte_lt (key0_lt (bys_lt s)) i) hc 64 0 rfl
  rw [← hp, mix_zero _ c 0] at hl
  by_cases h : 64 < s.size
  · have hk : key0 (bys s) = sha (bys s) := by rw [key0, if_pos (by rw [bys_len]; exact h)]
    refine f34.ok (f34.s1 (by simp; omega) (sum_ok s (by omega)) (by decide) ⟨rfl, by simp⟩ ?_)
    have hb : bytesOf (txt (sha (bys s))) = ii (sha (bys s)) := by rw [bytesOf_bys, bys_txt (sha_lt _)]
    rw [hb, txt_size, zero_ii, ii_take, ii_drop, ii_app, fill_eq _ (by rw [sha_len]; decide), ← hk]
    exact hl
  · have hk : key0 (bys s) = bys s := by rw [key0, if_neg (by rw [bys_len]; exact h)]
    refine f34.ok (f34.s2 (by simp; omega) (by decide) ⟨rfl, by simp⟩ ?_)
    rw [bytesOf_bys, ← bys_len, zero_ii, ii_take, ii_drop, ii_app, fill_eq _ (by rw [bys_len]; omega)]
    rw [hk] at hl
    exact hl
theorem rpad_loop (s u : ByteArray) (s4 : ByteArray) {c : Nat} (hc : c < 256) : ∀ k i, i + k = 64 → f31.at1 s (c : Nat) u s4 i (i : Nat) (ii (build (fun j => (bys u).getD j 0 ^^^ c) i)) (.string (txt (build (fun j => (bys u).getD j 0 ^^^ c) 64))) [] := by
  intro k
  induction k with
  | zero =>
    intro i hi
    obtain rfl : i = 64 := by omega
    refine cst (f31.s4 (by decide) (by rw [ii_len, build_len]; decide)) ?_ rfl
    rw [List.drop_zero, ii_take, List.take_of_length_le (by rw [build_len]; exact Nat.le_refl _)]
    rfl
  | succ k ih =>
    intro i hi
    have nx := ih (i + 1) (by omega)
    rw [build_succ] at nx
    have et : (i : Int) + 1 = ((i + 1 : Nat) : Int) := by simp
    by_cases h : i < u.size
    · have hb := bys_getD_lt u i
      refine f31.s3 (by simp; omega) (by simp; omega) (by omega) (by simp [Row.len]) ⟨by simp [Row.len, ii_len, build_len], by omega, by omega⟩ (by omega) ?_
      rw [bt_bys, xor_u8 hb hc, snoc_ii, et]
      exact nx
    · have hz : (bys u).getD i 0 = 0 := by rw [List.getD_eq_getElem?_getD, List.getElem?_eq_none (by rw [bys_len]; omega)]; rfl
      refine f31.s5 (by simp; omega) (by simp; omega) (by simp [Row.len]) ⟨by simp [Row.len, ii_len, build_len], by omega, by omega⟩ (by omega) ?_
      have h0 : Go.bits .xor .u8 0 (c : Int) = ((0 ^^^ c : Nat) : Int) := xor_u8 (a := 0) (by decide) hc
      rw [hz] at nx
      rw [h0, snoc_ii, et]
      exact nx
theorem rpad_ok (s : ByteArray) (hs : s.size < 1000000000) {c : Nat} (hc : c < 256) : Pure Try.prog 31 [.string s, .int .u8 c] (.string (txt (padM (bys s) c))) := by
  unfold padM
  by_cases h : 64 < s.size
  · have hk : key0 (bys s) = sha (bys s) := by rw [key0, if_pos (by rw [bys_len]; exact h)]
    have hl := rpad_loop s (txt (sha (bys s))) ⟨#[]⟩ hc 64 0 rfl
    rw [bys_txt (sha_lt _)] at hl
    rw [hk]
    exact f31.ok (f31.s1 (by simp; omega) (rsum_ok s (by omega)) hl)
  · have hk : key0 (bys s) = bys s := by rw [key0, if_neg (by rw [bys_len]; exact h)]
    rw [hk]
    exact f31.ok (f31.s2 (by simp; omega) (rpad_loop s s ⟨#[]⟩ hc 64 0 rfl))

/-! Codes -/
theorem bys_pm {k : ByteArray} {c : Nat} (hc : c < 256) : bys (txt (padM (bys k) c)) = padM (bys k) c := bys_txt (padM_lt (bys_lt k) hc)
def at_code (k : ByteArray) (ts : List ByteArray) (s4 : ByteArray) (i : Nat) (T : List Nat) (v : Value) : Prop :=
  f21.at1 k ts 0 ts.length s4 ((ts.length : Nat) : Int) (i : Nat) true (((stT T).a : Nat) : Int) (((stT T).b : Nat) : Int) (((stT T).c : Nat) : Int) (((stT T).d : Nat) : Int) (((stT T).e : Nat) : Int) (((stT T).f : Nat) : Int) (((stT T).g : Nat) : Int) (((stT T).h : Nat) : Int) (txt (restT T)) ((T.length : Nat) : Int) v [some ⟨false, 9, .strs ts⟩]
theorem code_loop (k : ByteArray) (hk : k.size < 1000000000) (ts : List ByteArray) (s4 : ByteArray) (ht : tot ts < 1000000000) (hl : ts.length ≤ 9223372036854775807) : ∀ n i, i + n = ts.length → at_code k ts s4 i (padM (bys k) 54 ++ cat (ts.take i)) (.string (txt (code (bys k) (cat ts)))) := by
  have p54 := padM_lt (bys_lt k) (c := 54) (by decide)
  have p92 := padM_lt (bys_lt k) (c := 92) (by decide)
  intro n
  induction n with
  | zero =>
    intro i hi
    obtain rfl : i = ts.length := by omega
    rw [List.take_length]
    have hz : (padM (bys k) 54 ++ cat ts).length = 64 + tot ts := by rw [List.length_append, padM_len]; rfl
    have h3 := runsum_ok (padM (bys k) 54 ++ cat ts) (app_lt p54 (cat_lt ts)) (by omega)
    have hc : cat [txt (padM (bys k) 92), txt (sha (padM (bys k) 54 ++ cat ts))] = padM (bys k) 92 ++ sha (padM (bys k) 54 ++ cat ts) := by
      simp only [cat, List.flatMap_cons, List.flatMap_nil, List.append_nil]
      rw [bys_txt p92, bys_txt (sha_lt _)]
    have h4 := join_ok [txt (padM (bys k) 92), txt (sha (padM (bys k) 54 ++ cat ts))] (by unfold tot; rw [hc, List.length_append, padM_len, sha_len]; decide) (by simp)
    rw [hc] at h4
    unfold at_code
    exact f21.s3 (by simp) (pad_ok k hk (by decide)) h3 h4
  | succ n ih =>
    intro i hi
    have e1 : ∀ y : Nat, 0 + (Int.toNat (y : Int)) * 1 = y := fun y => by simp
    have hn := tot_next ts i (by omega)
    have nx := ih (i + 1) (by omega)
    rw [cat_succ ts i (by omega), ← List.append_assoc] at nx
    have hw := with_ok (padM (bys k) 54 ++ cat (ts.take i)) (ts.getD i ByteArray.empty) (app_lt p54 (cat_lt _)) (by rw [List.length_append, padM_len]; unfold tot at hn ht; omega)
    unfold at_code at nx ⊢
    refine f21.s2 (by simp; omega) (by omega) (by rw [e1]; omega) (by rw [e1]; exact hw) (by omega) ?_
    rw [show (i : Int) + 1 = ((i + 1 : Nat) : Int) by simp]
    exact nx
theorem code_ok (k : ByteArray) (hk : k.size < 1000000000) (ts : List ByteArray) (ht : tot ts < 1000000000) (hl : ts.length ≤ 9223372036854775807) : FnOk Try.prog 21 [.string k, .slice (some ⟨0, 0, none⟩) ts.length 0] [some ⟨false, 9, .strs ts⟩] (.string (txt (code (bys k) (cat ts)))) [some ⟨false, 9, .strs ts⟩] := by
  have p54 := padM_lt (bys_lt k) (c := 54) (by decide)
  have h := code_loop k hk ts ⟨#[]⟩ ht hl ts.length 0 (Nat.zero_add _)
  have hw := with_ok [] (txt (padM (bys k) 54)) (fun x hx => by cases hx) (by rw [txt_size, padM_len]; decide)
  rw [bys_txt p54, List.nil_append] at hw
  rw [List.take_zero, show cat [] = [] from rfl, List.append_nil] at h
  unfold at_code at h
  exact f21.ok (f21.s1 begin_ok (pad_ok k hk (by decide)) hw h)
theorem code1_ok (k : ByteArray) (hk : k.size < 1000000000) (t : ByteArray) (ht : t.size < 1000000000) : FnOk Try.prog 21 [.string k, .slice (some ⟨0, 0, none⟩) 1 0] [some ⟨false, 9, .strs [t]⟩] (.string (txt (code (bys k) (bys t)))) [some ⟨false, 9, .strs [t]⟩] := by
  have hc : cat [t] = bys t := by simp [cat]
  have h := code_ok k hk [t] (by unfold tot; rw [hc, bys_len]; exact ht) (by simp)
  rw [hc] at h
  exact h
theorem rcode_ok (k : ByteArray) (hk : k.size < 1000000000) (t : ByteArray) (ht : t.size < 1000000000) : Pure Try.prog 20 [.string k, .string t] (.string (txt (code (bys k) (bys t)))) := by
  have p54 := padM_lt (bys_lt k) (c := 54) (by decide)
  have p92 := padM_lt (bys_lt k) (c := 92) (by decide)
  have z1 : (txt (padM (bys k) 54)).size = 64 := by rw [txt_size, padM_len]
  have z2 : (txt (padM (bys k) 92)).size = 64 := by rw [txt_size, padM_len]
  have h4 := rsum_ok (txt (padM (bys k) 54) ++ t) (by rw [ByteArray.size_append, z1]; omega)
  rw [bys_app, bys_txt p54] at h4
  have z3 : (txt (sha (padM (bys k) 54 ++ bys t))).size = 32 := by rw [txt_size, sha_len]
  have h6 := rsum_ok (txt (padM (bys k) 92) ++ txt (sha (padM (bys k) 54 ++ bys t))) (by rw [ByteArray.size_append, z2, z3]; decide)
  rw [bys_app, bys_txt p92, bys_txt (sha_lt _)] at h6
  exact f20.ok (f20.s1 (rpad_ok k hk (by decide)) (rpad_ok k hk (by decide)) (by rw [z1]; omega) h4 (by rw [z2, z3]; decide) h6)
end Go.Proofs.Ytdopibfclonfjaa.Abs.Seg04

namespace Go.Proofs.Ytdopibfclonfjaa.Abs.Seg04
open Go Go.RowKit Go.Proofs Go.Proofs.Ytdopibfclonfjaa.Abs Go.Proofs.Ytdopibfclonfjaa.Abs.Dg Go.Shelf

/-! strings.Builder: Len and WriteString -/
def renM : Ren := ⟨fun f => if f = 166 then 28 else if f = 170 then 27 else if f = 240 then 41 else if f = 276 then 48 else f, renB.t, fun _ => 0⟩
theorem lays166 : Lays.n166 Try.prog renM := by constructor <;> first | (intro w; kernel_rfl) | kernel_rfl
theorem lays170 : Lays.n170 Try.prog renM := by constructor <;> first | (intro w; kernel_rfl) | kernel_rfl
theorem extraM : Builder.Extra Try.prog renM where
  sizeBuilder := by kernel_rfl
  liesBuilder := by kernel_rfl
  t5 := by kernel_rfl
  a5 := fun w => by kernel_rfl
  z5 := fun w => by kernel_rfl
  v5 := fun w => by kernel_rfl
  infoByte := by kernel_rfl
  cellsByte := by kernel_rfl
  sizeByte := by kernel_rfl
  neB5 := by decide
theorem strCells_app (u s : ByteArray) : Lib.strCells (u ++ s) = Lib.strCells u ++ Lib.strCells s := by
  simp [Lib.strCells, ByteArray.data_append]
theorem ws_ok (u s : ByteArray) (h : u.size + s.size < 1000000000000) : BOk Try.prog 43 5 28 [.string s] u (.tuple #[.int .i64 ((s.size : Nat) : Int), .nilIface]) (some (u ++ s)) := by
  refine ⟨⟨Try.f28, Try.func28, by kernel_rfl, by kernel_rfl⟩, fun B b w hw hB => ?_⟩
  refine (Any.Builder_WriteString lays166 extraM B b (Lib.strCells u) s w hw (by rw [Lib.strCells_length]; omega) hB).mono ?_
  rintro e w' ⟨rfl, h1, h2⟩
  refine ⟨rfl, h2, fun x hx => ?_⟩
  obtain rfl := Option.some.inj hx
  rw [strCells_app]
  exact .inr h1
theorem len_ok (u : ByteArray) : BOk Try.prog 43 5 27 [] u (.int .i64 ((u.size : Nat) : Int)) (some u) := by
  refine ⟨⟨Try.f27, Try.func27, by kernel_rfl, by kernel_rfl⟩, fun B b w hw hB => ?_⟩
  refine (Any.Builder_Len lays170 B b (Lib.strCells u) w hw).mono ?_
  rintro e w' ⟨rfl, rfl⟩
  rw [Lib.strCells_length]
  refine ⟨rfl, Below.refl _ _, fun x hx => ?_⟩
  obtain rfl := Option.some.inj hx
  exact hw

/-! What is expanded -/
theorem one_byte (j : Nat) : ofInts (List.take 1 (List.drop 0 [wrapE .u8 ((j : Nat) : Int)])) = txt [j % 256] := by rw [w8n]; rfl
theorem cat3 (a b c : ByteArray) : cat [a, b, c] = bys a ++ bys b ++ bys c := by simp [cat]
theorem one_lt (j : Nat) : ∀ x ∈ [j % 256], x < 256 := by intro x hx; simp at hx; subst hx; exact Nat.mod_lt _ (by decide)
theorem exp_loop (k l : ByteArray) (hk : k.size < 1000000) (hl : l.size < 1000000) (n : Nat) (hn : n ≤ 8160) (s6 : ByteArray) : ∀ m j, j + m = (n + 31) / 32 →
    f10.at3 k l (n : Nat) s6 (txt (lastE (bys k) (bys l) j)) ((j : Int) + 1) (txt (allE (bys k) (bys l) j)) (.tuple #[.string (txt (expand (bys k) (bys l) n)), .int .i64 0]) [] := by
  intro m
  induction m with
  | zero =>
    intro j hj
    have hs : (txt (allE (bys k) (bys l) j)).size = 32 * j := by rw [txt_size, allE_len]
    have he : ByteArray.extract (txt (allE (bys k) (bys l) j)) 0 (Int.toNat ((n : Nat) : Int)) = txt (expand (bys k) (bys l) n) := by
      apply bys_inj
      rw [bys_txt (expand_lt _ _ _), bys_extract', bys_txt (allE_lt _ _ _), List.drop_zero, Int.toNat_natCast, Nat.sub_zero, expand]
      rw [show j = (n + 31) / 32 by omega]
    refine f10.s6 (f10.s7 (len_ok _) (f10.s9 (by rw [hs]; simp; omega) ?_))
    refine cst (f10.s11 (by rw [hs]; omega) (str_ok _)) ?_ rfl
    rw [he]
  | succ m ih =>
    intro j hj
    have hs : (txt (allE (bys k) (bys l) j)).size = 32 * j := by rw [txt_size, allE_len]
    have hlast := lastE_len (bys k) (bys l) j
    have ei : ((j : Int) + 1) = ((j + 1 : Nat) : Int) := by simp
    have ec : cat [txt (lastE (bys k) (bys l) j), l, txt [(j + 1) % 256]] = lastE (bys k) (bys l) j ++ bys l ++ [(j + 1) % 256] := by
      rw [cat3, bys_txt (lastE_lt _ _ _), bys_txt (one_lt _)]
    have hc := code_ok k (by omega) [txt (lastE (bys k) (bys l) j), l, txt [(j + 1) % 256]] (by
      unfold tot
      rw [ec, List.length_append, List.length_append, bys_len]
      simp
      omega) (by simp)
    rw [ec, ← lastE_succ] at hc
    have hs2 : (txt (lastE (bys k) (bys l) (j + 1))).size = 32 := by rw [txt_size, lastE_succ, code_len]
    have nx := ih (j + 1) (by omega)
    rw [allE_succ, txt_app] at nx
    refine f10.s6 (f10.s7 (len_ok _) (f10.s8 (u1 := txt (lastE (bys k) (bys l) (j + 1))) (by rw [hs]; simp; omega) (by simp) ?_ (f10.s10 (ws_ok (txt (allE (bys k) (bys l) j)) (txt (lastE (bys k) (bys l) (j + 1))) (by rw [hs, hs2]; omega)) (f10.s12 (by omega) ?_))))
    · rw [ei, one_byte]; exact hc
    · rw [ei]; exact nx
theorem expand_ok (k l : ByteArray) (hk : k.size < 1000000) (hl : l.size < 1000000) {n : Nat} (hn : n ≤ 8160) : Pure Try.prog 10 [.string k, .string l, .int .i64 n] (.tuple #[.string (txt (expand (bys k) (bys l) n)), .int .i64 0]) := by
  have h := exp_loop k l hk hl n hn ⟨#[]⟩ ((n + 31) / 32) 0 (Nat.zero_add _)
  exact f10.ok (f10.s3 (by simp) (by simp; omega) (f10.s4 (f10.s5 h)))
theorem expand_bad (k l : ByteArray) {x : Int} (hx : x < 0 ∨ 8160 < x) : Pure Try.prog 10 [.string k, .string l, .int .i64 x] (.tuple #[.string ⟨#[]⟩, .int .i64 1]) := by
  by_cases h : x < 0
  · exact f10.ok (f10.s1 (by simpa using h))
  · exact f10.ok (f10.s2 (by simp; omega) (by simp; omega))
theorem rexp_loop (k l : ByteArray) (hk : k.size < 1000000) (hl : l.size < 1000000) (n : Nat) (hn : n ≤ 8160) (s6 : ByteArray) : ∀ m j, j + m = (n + 31) / 32 →
    f11.at1 k l (n : Nat) s6 (txt (allE (bys k) (bys l) j)) (txt (lastE (bys k) (bys l) j)) ((j : Int) + 1) (.tuple #[.string (txt (expand (bys k) (bys l) n)), .int .i64 0]) [] := by
  intro m
  induction m with
  | zero =>
    intro j hj
    have hs : (txt (allE (bys k) (bys l) j)).size = 32 * j := by rw [txt_size, allE_len]
    have he : ByteArray.extract (txt (allE (bys k) (bys l) j)) 0 (Int.toNat ((n : Nat) : Int)) = txt (expand (bys k) (bys l) n) := by
      apply bys_inj
      rw [bys_txt (expand_lt _ _ _), bys_extract', bys_txt (allE_lt _ _ _), List.drop_zero, Int.toNat_natCast, Nat.sub_zero, expand]
      rw [show j = (n + 31) / 32 by omega]
    by_cases h : j + 1 ≤ 255
    · refine cst (f11.s6 (by simp; omega) (by rw [hs]; simp; omega) (by rw [hs]; omega)) ?_ rfl
      rw [he]
    · refine cst (f11.s5 (by simp; omega) (by rw [hs]; omega)) ?_ rfl
      rw [he]
  | succ m ih =>
    intro j hj
    have hs : (txt (allE (bys k) (bys l) j)).size = 32 * j := by rw [txt_size, allE_len]
    have hlast := lastE_len (bys k) (bys l) j
    have hls : (txt (lastE (bys k) (bys l) j)).size ≤ 32 := by rw [txt_size]; exact hlast
    have ei : ((j : Int) + 1) = ((j + 1 : Nat) : Int) := by simp
    have sz : (txt (lastE (bys k) (bys l) j) ++ l).size ≤ 32 + l.size := by rw [ByteArray.size_append]; omega
    have s1 : (txt [(j + 1) % 256]).size = 1 := by rw [txt_size]; rfl
    have hc := rcode_ok k (by omega) (txt (lastE (bys k) (bys l) j) ++ l ++ txt [(j + 1) % 256]) (by rw [ByteArray.size_append, s1]; omega)
    rw [bys_app, bys_app, bys_txt (lastE_lt _ _ _), bys_txt (one_lt _), ← lastE_succ] at hc
    have hs2 : (txt (lastE (bys k) (bys l) (j + 1))).size = 32 := by rw [txt_size, lastE_succ, code_len]
    have nx := ih (j + 1) (by omega)
    rw [allE_succ, txt_app] at nx
    refine f11.s4 (by simp; omega) (by rw [hs]; simp; omega) (by omega) (by simp) (by rw [ei, one_byte, s1]; omega) (by rw [ei, one_byte]; exact hc) (by rw [hs, hs2]; omega) (by omega) ?_
    rw [ei]; exact nx
theorem rexpand_ok (k l : ByteArray) (hk : k.size < 1000000) (hl : l.size < 1000000) {n : Nat} (hn : n ≤ 8160) : Pure Try.prog 11 [.string k, .string l, .int .i64 n] (.tuple #[.string (txt (expand (bys k) (bys l) n)), .int .i64 0]) := by
  have h := rexp_loop k l hk hl n hn ⟨#[]⟩ ((n + 31) / 32) 0 (Nat.zero_add _)
  exact f11.ok (f11.s3 (by simp) (by simp; omega) h)
theorem rexpand_bad (k l : ByteArray) {x : Int} (hx : x < 0 ∨ 8160 < x) : Pure Try.prog 11 [.string k, .string l, .int .i64 x] (.tuple #[.string ⟨#[]⟩, .int .i64 1]) := by
  by_cases h : x < 0
  · exact f11.ok (f11.s1 (by simpa using h))
  · exact f11.ok (f11.s2 (by simp; omega) (by simp; omega))

/-! What is extracted, derived -/
theorem z32 : ofInts (List.take 32 (List.drop 0 (List.replicate 32 (0 : Int)))) = txt (List.replicate 32 0) := rfl
theorem z32_lt : ∀ x ∈ List.replicate 32 0, x < 256 := by intro x hx; rw [(List.mem_replicate.1 hx).2]; decide
theorem nil_iff (s : ByteArray) : (s = ⟨#[]⟩) ↔ bys s = [] := by
  constructor
  · intro h; subst h; rfl
  · intro h; exact bys_inj (h.trans rfl)
theorem extract_ok (a b : ByteArray) (ha : a.size < 1000000) (hb : b.size < 1000000) : Pure Try.prog 14 [.string a, .string b] (.string (txt (extractT (bys a) (bys b)))) := by
  by_cases h : a = ⟨#[]⟩
  · have hz := code1_ok (txt (List.replicate 32 0)) (by rw [txt_size]; decide) b (by omega)
    rw [bys_txt z32_lt] at hz
    rw [extractT, if_pos ((nil_iff a).1 h)]
    exact f14.ok (f14.s1 (by simpa using h) (by decide) (by simp) (by rw [z32]; exact hz))
  · rw [extractT, if_neg (fun e => h ((nil_iff a).2 e))]
    exact f14.ok (f14.s2 (by simpa using h) (code1_ok a (by omega) b (by omega)))
theorem rextract_ok (a b : ByteArray) (ha : a.size < 1000000) (hb : b.size < 1000000) : Pure Try.prog 15 [.string a, .string b] (.string (txt (extractT (bys a) (bys b)))) := by
  by_cases h : a = ⟨#[]⟩
  · have hz := rcode_ok (txt (List.replicate 32 0)) (by rw [txt_size]; decide) b (by omega)
    rw [bys_txt z32_lt] at hz
    rw [extractT, if_pos ((nil_iff a).1 h)]
    exact f15.ok (f15.s1 (by simpa using h) (by decide) (by simp) (by rw [z32]; exact hz))
  · rw [extractT, if_neg (fun e => h ((nil_iff a).2 e))]
    exact f15.ok (f15.s2 (by simpa using h) (rcode_ok a (by omega) b (by omega)))
theorem ex_sz (a b : List Nat) : (txt (extractT a b)).size < 1000000 := by rw [txt_size, extractT_len]; decide
theorem derive_ok (k l : ByteArray) (hk : k.size < 1000000) (hl : l.size < 1000000) {n : Nat} (hn : n ≤ 8160) : Pure Try.prog 12 [.string k, .string l, .int .i64 n] (.tuple #[.string (txt (expand (extractT [] (bys k)) (bys l) n)), .int .i64 0]) := by
  have h := expand_ok (txt (extractT [] (bys k))) l (ex_sz _ _) hl hn
  rw [bys_txt (extractT_lt _ _)] at h
  exact f12.ok (f12.s1 (extract_ok ⟨#[]⟩ k (by decide) hk) h)
theorem derive_bad (k l : ByteArray) (hk : k.size < 1000000) {x : Int} (hx : x < 0 ∨ 8160 < x) : Pure Try.prog 12 [.string k, .string l, .int .i64 x] (.tuple #[.string ⟨#[]⟩, .int .i64 1]) :=
  f12.ok (f12.s1 (extract_ok ⟨#[]⟩ k (by decide) hk) (expand_bad _ l hx))
theorem rderive_ok (k l : ByteArray) (hk : k.size < 1000000) (hl : l.size < 1000000) {n : Nat} (hn : n ≤ 8160) : Pure Try.prog 13 [.string k, .string l, .int .i64 n] (.tuple #[.string (txt (expand (extractT [] (bys k)) (bys l) n)), .int .i64 0]) := by
  have h := rexpand_ok (txt (extractT [] (bys k))) l (ex_sz _ _) hl hn
  rw [bys_txt (extractT_lt _ _)] at h
  exact f13.ok (f13.s1 (rextract_ok ⟨#[]⟩ k (by decide) hk) h)
theorem rderive_bad (k l : ByteArray) (hk : k.size < 1000000) {x : Int} (hx : x < 0 ∨ 8160 < x) : Pure Try.prog 13 [.string k, .string l, .int .i64 x] (.tuple #[.string ⟨#[]⟩, .int .i64 1]) :=
  f13.ok (f13.s1 (rextract_ok ⟨#[]⟩ k (by decide) hk) (rexpand_bad _ l hx))
end Go.Proofs.Ytdopibfclonfjaa.Abs.Seg04

namespace Go.Proofs.Ytdopibfclonfjaa.Abs.Seg04
open Go Go.RowKit Go.Proofs Go.Proofs.Ytdopibfclonfjaa.Abs Go.Proofs.Ytdopibfclonfjaa.Abs.Dg Go.Shelf

/-! Keys of keys -/
theorem num_lt (x : Int) : num x < 18446744073709551616 := by unfold num; omega
theorem key_loop (k l : ByteArray) (x : Int) (s6 : ByteArray) (base : List Nat) (hb : base.length < 1000000) (v : Value)
    (hE : Pure Try.prog 12 [.string k, .string (txt (base ++ be8 (num x))), .int .i64 32] (.tuple #[v, .int .i64 0])) (u : ByteArray) (hv : v = .string u) : ∀ m j, j + m = 8 →
    f16.at1 k l x s6 (base.length + j) (56 - 8 * (j : Nat)) (ii (base ++ (be8 (num x)).take j)) (.string u) [] := by
  subst hv
  intro m
  induction m with
  | zero =>
    intro j hj
    obtain rfl : j = 8 := by omega
    have e : (be8 (num x)).take 8 = be8 (num x) := rfl
    have hl : (base ++ be8 (num x)).length = base.length + 8 := by rw [List.length_append]; rfl
    have et : ofInts (List.take (base.length + 8) (List.drop 0 (ii (base ++ be8 (num x))))) = txt (base ++ be8 (num x)) := by
      rw [List.drop_zero, ii_take, List.take_of_length_le (by rw [hl]; exact Nat.le_refl _)]; rfl
    rw [e]
    exact f16.s3 (by decide) (by rw [ii_len, hl]; omega) (by rw [et]; exact hE)
  | succ m ih =>
    intro j hj
    have hl : ((be8 (num x)).take j).length = j := by rw [List.length_take]; show min j 8 = j; omega
    have e1 : Int.toNat (56 - 8 * (j : Int)) = 56 - 8 * j := by omega
    have e2 : wrapE .u64 x = ((num x : Nat) : Int) := w64i x
    refine f16.s2 (by simp; omega) (by simp [IntKind.bits]; omega) (by simp [Row.len]) ⟨by simp [Row.len, ii_len, hl], by omega, by omega⟩ (by omega) ?_
    rw [e1, e2, shr_n, w8n, ← be8_get _ _ (by omega)]
    have e4 : ii (base ++ (be8 (num x)).take j) ++ List.take 1 (List.drop 0 [(((be8 (num x)).getD j 0 : Nat) : Int)]) = ii (base ++ (be8 (num x)).take (j + 1)) := by
      rw [take_succ' _ _ (by show j < 8; omega), ← List.append_assoc]; simp [ii]
    rw [e4, show (56 : Int) - 8 * (j : Nat) - 8 = 56 - 8 * ((j + 1 : Nat) : Int) by omega, Nat.add_assoc]
    exact ih (j + 1) (by omega)
theorem z0 : bys ⟨#[0]⟩ = [0] := rfl
theorem lab_lt (l : ByteArray) (x : Int) : ∀ y ∈ bys l ++ [0] ++ be8 (num x), y < 256 := app_lt (app_lt (bys_lt l) (by intro y hy; simp at hy; omega)) (be8_lt _)
theorem key_ok (k l : ByteArray) (x : Int) (hk : k.size < 1000000) (hl : l.size < 100000) : Pure Try.prog 16 [.string k, .string l, .int .i64 x] (.string (txt (keyT (bys k) (bys l) x))) := by
  have hb : (bys l ++ [0]).length = l.size + 1 := by rw [List.length_append, bys_len]; rfl
  have hz : (txt (bys l ++ [0] ++ be8 (num x))).size < 1000000 := by
    rw [txt_size, List.length_append, hb]; show _ + 8 < _; omega
  have hd := derive_ok k (txt (bys l ++ [0] ++ be8 (num x))) hk hz (n := 32) (by decide)
  rw [bys_txt (lab_lt l x)] at hd
  have h := key_loop k l x ⟨#[]⟩ (bys l ++ [0]) (by omega) _ hd _ rfl 8 0 rfl
  rw [List.take_zero, List.append_nil, hb] at h
  have e1 : (l ++ ⟨#[0]⟩ : ByteArray).size = l.size + 1 := by rw [ByteArray.size_append]; rfl
  have e2 : bytesOf (l ++ ⟨#[0]⟩) = ii (bys l ++ [0]) := by rw [bytesOf_bys, bys_app, z0]
  refine f16.ok (f16.s1 (by rw [show (ByteArray.size ⟨#[0]⟩) = 1 from rfl]; omega) ?_)
  rw [e1, e2]
  exact h
theorem div256 (u i j : Nat) (h : i ≤ j) : u / 256 ^ (j - i) / 256 = u / 256 ^ (j + 1 - i) := by
  rw [Nat.div_div_eq_div_mul, ← Nat.pow_succ, show (j - i).succ = j + 1 - i by omega]
theorem num_pow (x : Int) (s2 : ByteArray) (n u i : Nat) (hu : u < 18446744073709551616) (xs : List Int) (v : Value) (Hf : Heap) (hi : i < 8) (hE : f30.at2 x s2 ((u : Nat) : Int) n (i : Nat) ((u / 256 ^ (7 - i) : Nat) : Int) 7 xs v Hf) : ∀ m j, j + m = 7 → i ≤ j → f30.at2 x s2 ((u : Nat) : Int) n (i : Nat) ((u / 256 ^ (j - i) : Nat) : Int) (j : Nat) xs v Hf := by
  intro m
  induction m with
  | zero =>
    intro j hj _
    obtain rfl : j = 7 := by omega
    exact hE
  | succ m ih =>
    intro j hj hij
    have hle : u / 256 ^ (j - i) ≤ u := Nat.div_le_self _ _
    refine f30.s4 (by simp; omega) ⟨Int.natCast_nonneg _, by decide, by omega⟩ (by omega) ?_
    rw [show ((u / 256 ^ (j - i) : Nat) : Int) / 256 = ((u / 256 ^ (j - i) / 256 : Nat) : Int) from (Int.natCast_ediv _ 256).symm, div256 u i j hij, show (j : Int) + 1 = ((j + 1 : Nat) : Int) by simp]
    exact ih (j + 1) (by omega) (by omega)
theorem num_loop (x : Int) (s2 : ByteArray) (u : Nat) (hu : u < 18446744073709551616) : ∀ m i, i + m = 8 → f30.at1 x s2 ((u : Nat) : Int) i (i : Nat) (ii ((be8 u).take i)) (.string (txt (be8 u))) [] := by
  intro m
  induction m with
  | zero =>
    intro i hi
    obtain rfl : i = 8 := by omega
    have e : (be8 u).take 8 = be8 u := rfl
    rw [e]
    exact f30.s3 (by decide) (by rw [ii_len]; show 0 + 8 ≤ 8; decide)
  | succ m ih =>
    intro i hi
    have hl : ((be8 u).take i).length = i := by rw [List.length_take]; show min i 8 = i; omega
    have nx := ih (i + 1) (by omega)
    rw [take_succ' _ _ (by show i < 8; omega), be8_get _ _ (by omega), ← p256 i (by omega)] at nx
    have hlt : u / 256 ^ (7 - i) % 256 < 256 := Nat.mod_lt _ (by decide)
    refine f30.s2 (by simp; omega) ?_
    have h1 := num_pow x s2 i u i hu (ii ((be8 u).take i)) (.string (txt (be8 u))) [] (by omega) ?_ (7 - i) i (by omega) (Nat.le_refl _)
    · rw [Nat.sub_self, Nat.pow_zero, Nat.div_one] at h1
      exact h1
    · refine f30.s5 (by decide) ⟨Int.natCast_nonneg _, by decide⟩ (by simp [Row.len]) ⟨by simp [Row.len, ii_len, hl], by omega, by omega⟩ (by omega) ?_
      rw [show ((u / 256 ^ (7 - i) : Nat) : Int) % 256 = ((u / 256 ^ (7 - i) % 256 : Nat) : Int) from (Int.natCast_emod _ 256).symm, w8n, Nat.mod_eq_of_lt hlt, snoc_ii, show (i : Int) + 1 = ((i + 1 : Nat) : Int) by simp]
      exact nx
theorem number_ok (x : Int) : Pure Try.prog 30 [.int .i64 x] (.string (txt (be8 (num x)))) := by
  have h := num_loop x ⟨#[]⟩ (num x) (num_lt x) 8 0 rfl
  have e2 : wrapE .u64 x = ((num x : Nat) : Int) := w64i x
  refine f30.ok (f30.s1 ?_)
  rw [e2]
  exact h
theorem rkey_ok (k l : ByteArray) (x : Int) (hk : k.size < 1000000) (hl : l.size < 100000) : Pure Try.prog 17 [.string k, .string l, .int .i64 x] (.string (txt (keyT (bys k) (bys l) x))) := by
  have hb : (bys l ++ [0]).length = l.size + 1 := by rw [List.length_append, bys_len]; rfl
  have et : (l ++ ⟨#[0]⟩ : ByteArray) ++ txt (be8 (num x)) = txt (bys l ++ [0] ++ be8 (num x)) := by
    rw [txt_app, txt_app, txt_bys]; rfl
  have hz : (txt (bys l ++ [0] ++ be8 (num x))).size < 1000000 := by
    rw [txt_size, List.length_append, hb]; show _ + 8 < _; omega
  have hd := rderive_ok k (txt (bys l ++ [0] ++ be8 (num x))) hk hz (n := 32) (by decide)
  rw [bys_txt (lab_lt l x)] at hd
  have e1 : (l ++ ⟨#[0]⟩ : ByteArray).size = l.size + 1 := by rw [ByteArray.size_append]; rfl
  have e8 : (txt (be8 (num x))).size = 8 := by rw [txt_size]; rfl
  exact f17.ok (f17.s1 (by rw [show (ByteArray.size ⟨#[0]⟩) = 1 from rfl]; omega) (number_ok x) (by rw [e1, e8]; omega) (by rw [et]; exact hd))

/-! Is it the code? -/
theorem or_zero {a b : Nat} : a ||| b = 0 ↔ a = 0 ∧ b = 0 := Nat.or_eq_zero_iff
theorem xor_zero {a b : Nat} : a ^^^ b = 0 ↔ a = b := by
  constructor
  · intro h
    have e : a ^^^ b ^^^ b = a := by rw [Nat.xor_assoc, Nat.xor_self, Nat.xor_zero]
    rw [← e, h, Nat.zero_xor]
  · intro h; subst h; exact Nat.xor_self a
theorem take_step_eq (a b : List Nat) (i : Nat) (ha : i < a.length) (hb : i < b.length) : a.take (i + 1) = b.take (i + 1) ↔ a.take i = b.take i ∧ a.getD i 0 = b.getD i 0 := by
  rw [take_succ' a i ha, take_succ' b i hb]
  constructor
  · intro h
    have := List.append_inj h (by rw [List.length_take, List.length_take]; omega)
    exact ⟨this.1, by simpa using this.2⟩
  · rintro ⟨h1, h2⟩
    rw [h1, h2]
theorem check_loop (k t c w : ByteArray) (b : Bool) (hsz : c.size = w.size) (hw : w.size < 1000000) : ∀ m i o, i + m = w.size → o < 256 → (o = 0 ↔ (bys c).take i = (bys w).take i) → f25.at1 k t c b w (o : Nat) ((w.size : Nat) : Int) (i : Nat) (.bool (decide (bys c = bys w))) [] := by
  intro m
  induction m with
  | zero =>
    intro i o hi ho h
    obtain rfl : i = w.size := by omega
    refine cst (f25.s4 (by simp)) ?_ rfl
    rw [List.take_of_length_le (by rw [bys_len]; omega), List.take_of_length_le (by rw [bys_len]; omega)] at h
    congr 1
    rw [decide_eq_decide, ← h]
    omega
  | succ m ih =>
    intro i o hi ho h
    have h1 := bys_getD_lt w i
    have h2 := bys_getD_lt c i
    have hx := x8 h1 h2
    refine f25.s3 (by simp; omega) (by omega) (by omega) (by omega) ?_
    rw [bt_bys, bt_bys, xor_u8 h1 h2, or_u8 ho hx, show (i : Int) + 1 = ((i + 1 : Nat) : Int) by simp]
    refine ih (i + 1) _ (by omega) (Nat.or_lt_two_pow (n := 8) ho hx) ?_
    rw [take_step_eq _ _ _ (by rw [bys_len]; omega) (by rw [bys_len]; omega), or_zero, xor_zero, h]
    constructor
    · rintro ⟨a, b⟩; exact ⟨a, b.symm⟩
    · rintro ⟨a, b⟩; exact ⟨a, b.symm⟩
theorem check_ok (k t c : ByteArray) (hk : k.size < 1000000) (ht : t.size < 1000000) : Pure Try.prog 25 [.string k, .string t, .string c] (.bool (decide (bys c = code (bys k) (bys t)))) := by
  have hc := code1_ok k (by omega) t (by omega)
  have hz : (txt (code (bys k) (bys t))).size = 32 := by rw [txt_size, code_len]
  by_cases h : c.size = 32
  · have hl := check_loop k t c (txt (code (bys k) (bys t))) false (by rw [hz]; exact h) (by rw [hz]; decide) 32 0 0 (by rw [hz]) (by decide) (by simp)
    rw [bys_txt (code_lt _ _)] at hl
    exact f25.ok (f25.s2 hc (by rw [hz, h]; decide) hl)
  · have hn : ¬ bys c = code (bys k) (bys t) := fun e => h (by rw [← bys_len, e, code_len])
    rw [show (decide (bys c = code (bys k) (bys t))) = false by simpa using hn]
    exact f25.ok (f25.s1 hc (by rw [hz]; simp; omega))

/-! The texts that are summed -/
def textsT (k t : ByteArray) : List ByteArray := (if 64 < k.size then [k] else []) ++ [txt (padM (bys k) 54) ++ t, txt (padM (bys k) 92) ++ txt (sha (padM (bys k) 54 ++ bys t))]
theorem texts_ok (k t : ByteArray) (hk : k.size < 1000000) (ht : t.size < 1000000) : FnOk Try.prog 23 [.string k, .string t] [] (.slice (some ⟨0, 0, none⟩) (List.length (textsT k t)) 0) [some ⟨true, 9, .strs (textsT k t)⟩] := by
  have p54 := padM_lt (bys_lt k) (c := 54) (by decide)
  have z1 : (txt (padM (bys k) 54)).size = 64 := by rw [txt_size, padM_len]
  have z2 : (txt (padM (bys k) 92)).size = 64 := by rw [txt_size, padM_len]
  have z3 : (txt (sha (padM (bys k) 54 ++ bys t))).size = 32 := by rw [txt_size, sha_len]
  have hs := sum_ok (txt (padM (bys k) 54) ++ t) (by rw [ByteArray.size_append, z1]; omega)
  rw [bys_app, bys_txt p54] at hs
  unfold textsT
  by_cases h : 64 < k.size
  · rw [if_pos h]
    exact f23.ok (f23.s1 (by simp; omega) (by simp [Row.len]) (by decide) (pad_ok k (by omega) (by decide)) (by rw [z1]; omega) (pad_ok k (by omega) (by decide)) hs (by rw [z2, z3]; decide) (by simp [Row.len]) ⟨by simp [Row.len], by decide, by decide⟩)
  · rw [if_neg h]
    exact f23.ok (f23.s2 (by simp; omega) (pad_ok k (by omega) (by decide)) (by rw [z1]; omega) (pad_ok k (by omega) (by decide)) hs (by rw [z2, z3]; decide) (by simp [Row.len]) (by decide))
theorem rtexts_ok (k t : ByteArray) (hk : k.size < 1000000) (ht : t.size < 1000000) : FnOk Try.prog 24 [.string k, .string t] [] (.slice (some ⟨0, 0, none⟩) (List.length (textsT k t)) 0) [some ⟨true, 9, .strs (textsT k t)⟩] := by
  have p54 := padM_lt (bys_lt k) (c := 54) (by decide)
  have z1 : (txt (padM (bys k) 54)).size = 64 := by rw [txt_size, padM_len]
  have z2 : (txt (padM (bys k) 92)).size = 64 := by rw [txt_size, padM_len]
  have z3 : (txt (sha (padM (bys k) 54 ++ bys t))).size = 32 := by rw [txt_size, sha_len]
  have hs := rsum_ok (txt (padM (bys k) 54) ++ t) (by rw [ByteArray.size_append, z1]; omega)
  rw [bys_app, bys_txt p54] at hs
  have r1 := rpad_ok k (by omega) (c := 54) (by decide)
  have r2 := rpad_ok k (by omega) (c := 92) (by decide)
  unfold textsT
  by_cases h : 64 < k.size
  · rw [if_pos h]
    exact f24.ok (f24.s1 (by simp; omega) (by simp [Row.len]) (by decide) r1 (by rw [z1]; omega) (by simp [Row.len]) ⟨by simp [Row.len], by decide, by decide⟩ r2 r1 (by rw [z1]; omega) hs (by rw [z2, z3]; decide) (by simp [Row.len]) ⟨by simp [Row.len], by decide, by decide⟩)
  · rw [if_neg h]
    exact f24.ok (f24.s2 (by simp; omega) r1 (by rw [z1]; omega) (by simp [Row.len]) (by decide) r2 r1 (by rw [z1]; omega) hs (by rw [z2, z3]; decide) (by simp [Row.len]) ⟨by simp [Row.len], by decide, by decide⟩)
theorem same_loop (ts : List ByteArray) (b : Bool) (hl : ts.length ≤ 9223372036854775807) : ∀ m i, i + m = ts.length → f22.at1 ts 0 ts.length ts 0 ts.length b (i : Nat) (.bool true) [some ⟨false, 9, .strs ts⟩, some ⟨false, 9, .strs ts⟩] := by
  intro m
  induction m with
  | zero =>
    intro i hi
    obtain rfl : i = ts.length := by omega
    exact f22.s4 (by simp)
  | succ m ih =>
    intro i hi
    have e1 : ∀ y : Nat, 0 + (Int.toNat (y : Int)) * 1 = y := fun y => by simp
    refine f22.s5 (by simp; omega) (by omega) (by rw [e1]; omega) (by omega) (by rw [e1]; omega) (by simp) (by omega) ?_
    rw [show (i : Int) + 1 = ((i + 1 : Nat) : Int) by simp]
    exact ih (i + 1) (by omega)
theorem same_ok (ts : List ByteArray) (hl : ts.length ≤ 9223372036854775807) : FnOk Try.prog 22 [.slice (some ⟨0, 0, none⟩) (List.length ts) 0, .slice (some ⟨1, 0, none⟩) (List.length ts) 0] [some ⟨false, 9, .strs ts⟩, some ⟨false, 9, .strs ts⟩] (.bool true) [some ⟨false, 9, .strs ts⟩, some ⟨false, 9, .strs ts⟩] :=
  f22.ok (f22.s2 (by simp) (same_loop ts false hl ts.length 0 (Nat.zero_add _)))
end Go.Proofs.Ytdopibfclonfjaa.Abs.Seg04

namespace Go.Proofs.Ytdopibfclonfjaa.Abs.Seg04
open Go Go.RowKit Go.Proofs Go.Proofs.Ytdopibfclonfjaa.Abs Go.Proofs.Ytdopibfclonfjaa.Abs.Dg

def foxB : ByteArray := ⟨#[84, 104, 101, 32, 113, 117, 105, 99, 107, 32, 98, 114, 111, 119, 110, 32, 102, 111, 120, 32, 106, 117, 109, 112, 115, 32, 111, 118, 101, 114, 32, 116, 104, 101, 32, 108, 97, 122, 121, 32, 100, 111, 103]⟩
theorem fox : (code [107, 101, 121] [84, 104, 101, 32, 113, 117, 105, 99, 107, 32, 98, 114, 111, 119, 110, 32, 102, 111, 120, 32, 106, 117, 109, 112, 115, 32, 111, 118, 101, 114, 32, 116, 104, 101, 32, 108, 97, 122, 121, 32, 100, 111, 103]).take 4 = [247, 188, 131, 244] := by decide +kernel
theorem fox_bys : bys ⟨#[107, 101, 121]⟩ = [107, 101, 121] ∧ bys foxB = [84, 104, 101, 32, 113, 117, 105, 99, 107, 32, 98, 114, 111, 119, 110, 32, 102, 111, 120, 32, 106, 117, 109, 112, 115, 32, 111, 118, 101, 114, 32, 116, 104, 101, 32, 108, 97, 122, 121, 32, 100, 111, 103] := ⟨rfl, rfl⟩
theorem keyT_len (k l : List Nat) (x : Int) : (keyT k l x).length = 32 := by unfold keyT; exact expand_len _ _ _
theorem awake_ok : Pure Try.prog 9 [] (.bool true) := by
  have h1 := code1_ok ⟨#[107, 101, 121]⟩ (by decide) foxB (by decide)
  have hz : (txt (code (bys ⟨#[107, 101, 121]⟩) (bys foxB))).size = 32 := by rw [txt_size, code_len]
  have e : ByteArray.extract (txt (code (bys ⟨#[107, 101, 121]⟩) (bys foxB))) 0 4 = ⟨#[247, 188, 131, 244]⟩ := by
    apply bys_inj
    rw [bys_extract', bys_txt (code_lt _ _), List.drop_zero, fox_bys.1, fox_bys.2]
    exact fox
  have h5 := key_ok ⟨#[97]⟩ ⟨#[98]⟩ 1 (by decide) (by decide)
  have hk : (txt (keyT (bys ⟨#[97]⟩) (bys ⟨#[98]⟩) 1)).size = 32 := by rw [txt_size, keyT_len]
  refine f9.ok (cst (f9.s1 h1 (by rw [hz]; decide) (by rw [hz]; decide) (by rw [e]; decide) h5) ?_ rfl)
  rw [hk]; rfl
theorem expands_ok (a s : ByteArray) (x : Int) : Pure Try.prog 3 [.string a, .string s, .int .i64 x] (.bool true) := by
  by_cases ha : 200 < a.size
  · exact f3.ok (f3.s1 (by simp; omega) awake_ok)
  by_cases hs : 200 < s.size
  · exact f3.ok (f3.s2 (by simp; omega) (by simp; omega) awake_ok)
  have e1 := extract_ok a s (by omega) (by omega)
  have e2 := rextract_ok a s (by omega) (by omega)
  by_cases h1 : 1000 < x
  · by_cases h2 : x ≤ 8160
    · exact f3.ok (f3.s3 (by simp; omega) (by simp; omega) (by simpa using h1) (by simpa using h2) awake_ok)
    · have hb : x < 0 ∨ 8160 < x := by omega
      exact f3.ok (f3.s5 (by simp; omega) (by simp; omega) (by simpa using h1) (by simp; omega) (expand_bad s a hb) (rexpand_bad s a hb) (derive_bad s a (by omega) hb) (rderive_bad s a (by omega) hb) awake_ok rfl e1 e2 (by simp) (by simp) (by simp) (by simp))
  · by_cases hn : x < 0
    · have hb : x < 0 ∨ 8160 < x := .inl hn
      exact f3.ok (f3.s4 (by simp; omega) (by simp; omega) (by simp; omega) (expand_bad s a hb) (rexpand_bad s a hb) (derive_bad s a (by omega) hb) (rderive_bad s a (by omega) hb) awake_ok rfl e1 e2 (by simp) (by simp) (by simp) (by simp))
    · obtain ⟨n, rfl⟩ : ∃ n : Nat, x = (n : Int) := ⟨x.toNat, by omega⟩
      exact f3.ok (f3.s4 (by simp; omega) (by simp; omega) (by simp; omega) (expand_ok s a (by omega) (by omega) (by omega)) (rexpand_ok s a (by omega) (by omega) (by omega)) (derive_ok s a (by omega) (by omega) (by omega)) (rderive_ok s a (by omega) (by omega) (by omega)) awake_ok rfl e1 e2 (by simp) (by simp) (by simp) (by simp))
theorem keys2_ok (s l : ByteArray) (x : Int) : Pure Try.prog 4 [.string s, .string l, .int .i64 x] (.bool true) := by
  by_cases hs : 200 < s.size
  · exact f4.ok (f4.s1 (by simp; omega) awake_ok)
  by_cases hl : 200 < l.size
  · exact f4.ok (f4.s2 (by simp; omega) (by simp; omega) awake_ok)
  refine f4.ok (cst (f4.s3 (by simp; omega) (by simp; omega) (key_ok s l x (by omega) (by omega)) awake_ok rfl (rkey_ok s l x (by omega) (by omega)) (by simp)) ?_ rfl)
  rw [txt_size, keyT_len]; rfl
theorem begins_ok (s l : ByteArray) (x : Int) : Pure Try.prog 5 [.string s, .string l, .int .i64 x] (.bool true) := by
  by_cases hs : 100 < s.size
  · exact f5.ok (f5.s1 (by simp; omega) awake_ok)
  by_cases hl : 100 < l.size
  · exact f5.ok (f5.s2 (by simp; omega) (by simp; omega) awake_ok)
  have hb : -(8161 : Int) < Int.tmod x 8161 ∧ Int.tmod x 8161 < 8161 := tmod_bd x 8161 (by decide)
  obtain ⟨e, hlt⟩ := tmod_twice x 8161 (by decide)
  have e' : Int.tmod (Int.tmod x 8161 + 8161) 8161 = (((x % 8161).toNat : Nat) : Int) := e
  have hlt' : (x % 8161).toNat < 8161 := hlt
  generalize (x % 8161).toNat = n at e' hlt'
  have z1 : (txt (expand (bys s) (bys l) n)).size = n := by rw [txt_size, expand_len]
  have z2 : (txt (expand (bys s) (bys l) 8160)).size = 8160 := by rw [txt_size, expand_len]
  have ee : ByteArray.extract (txt (expand (bys s) (bys l) 8160)) 0 n = txt (expand (bys s) (bys l) n) := by
    apply bys_inj
    rw [bys_txt (expand_lt _ _ _), bys_extract', bys_txt (expand_lt _ _ _), List.drop_zero, Nat.sub_zero, expand_pre _ _ _ _ (by omega)]
  have h5 := expand_ok s l (by omega) (by omega) (n := 8160) (Nat.le_refl _)
  have h6 := expand_bad s l (x := 8161) (.inr (by decide))
  refine f5.ok (cst (f5.s3 (u1 := txt (expand (bys s) (bys l) n)) (u3 := txt (expand (bys s) (bys l) 8160)) (by simp; omega) (by simp; omega) (by omega) (by rw [e']; exact expand_ok s l (by omega) (by omega) (by omega)) h5 h6 awake_ok rfl (by decide) (by decide) (by decide) (by rw [e', z1]; simp) (by rw [z2]; decide) (by rw [e', z2]; omega)) ?_ rfl)
  rw [e', Int.toNat_natCast, ee]
  simp
theorem codes_ok (k : ByteArray) (ts : List ByteArray) (hl : ts.length ≤ 9223372036854775807) : FnOk Try.prog 6 [.string k, .slice (some ⟨0, 0, none⟩) ts.length 0] [some ⟨false, 9, .strs ts⟩] (.bool true) [some ⟨false, 9, .strs ts⟩] := by
  by_cases hk : 300 < k.size
  · exact f6.ok (f6.s1 (by simp; omega) awake_ok)
  have hf := few_ok ts 10 300 hl
  by_cases h : fewB ts 10 300 = true
  · obtain ⟨_, _, ht⟩ := few_tot h
    rw [h] at hf
    have hz : (txt (cat ts)).size = tot ts := by rw [txt_size]; rfl
    have h5 := rcode_ok k (by omega) (txt (cat ts)) (by omega)
    have h10 := code1_ok k (by omega) (txt (cat ts)) (by omega)
    rw [bys_txt (cat_lt ts)] at h5 h10
    have hT : (textsT k (txt (cat ts))).length ≤ 9223372036854775807 := by unfold textsT; split <;> simp
    exact f6.ok (f6.s3 (by simp; omega) hf rfl (all_ok ts (by omega) hl) h5 awake_ok rfl (code_ok k (by omega) ts (by omega) hl) (by simp) h10 (by simp) (texts_ok k (txt (cat ts)) (by omega) (by omega)) (rtexts_ok k (txt (cat ts)) (by omega) (by omega)) (same_ok _ hT))
  · rw [Bool.not_eq_true] at h
    rw [h] at hf
    exact f6.ok (f6.s2 (by simp; omega) hf rfl awake_ok)
theorem xor_ne (n : Nat) : n ^^^ 1 ≠ n := by
  intro h
  have e : n ^^^ (n ^^^ 1) = n ^^^ n := by rw [h]
  rw [← Nat.xor_assoc, Nat.xor_self, Nat.zero_xor] at e
  exact absurd e (by decide)
theorem flip_ne (C : List Nat) (i : Nat) (h : i < C.length) : ¬ C.set i (C.getD i 0 ^^^ 1) = C := by
  intro e
  have : (C.set i (C.getD i 0 ^^^ 1)).getD i 0 = C.getD i 0 := by rw [e]
  rw [set_get _ _ _ h] at this
  exact xor_ne _ this
theorem checks_ok (k t c : ByteArray) : Pure Try.prog 7 [.string k, .string t, .string c] (.bool true) := by
  by_cases hk : 300 < k.size
  · exact f7.ok (f7.s1 (by simp; omega) awake_ok)
  by_cases ht : 300 < t.size
  · exact f7.ok (f7.s2 (by simp; omega) (by simp; omega) awake_ok)
  by_cases hc : 100 < c.size
  · exact f7.ok (f7.s3 (by simp; omega) (by simp; omega) (by simp; omega) awake_ok)
  have h4 := rcode_ok k (by omega) t (by omega)
  have ck := fun x => check_ok k t x (by omega) (by omega)
  have hCl := code_len (bys k) (bys t)
  have hCb := code_lt (bys k) (bys t)
  generalize code (bys k) (bys t) = C at h4 ck hCl hCb
  have hz : (txt C).size = 32 := by rw [txt_size, hCl]
  have hb : bytesOf (txt C) = ii C := by rw [bytesOf_bys, bys_txt hCb]
  have p3 : (decide (bys c = C) == decide (c = txt C)) = true := by
    have : (c = txt C) ↔ bys c = C := ⟨fun h => by rw [h, bys_txt hCb], fun h => by rw [← h, txt_bys]⟩
    simp [this]
  have p4 : decide (bys (txt C) = C) = true := by rw [bys_txt hCb]; simp
  have fl : ∀ i, i < 32 → (∀ x ∈ C.set i (C.getD i 0 ^^^ 1), x < 256) := by
    intro i hi x hx
    cases List.mem_or_eq_of_mem_set hx with
    | inl h => exact hCb x h
    | inr h => rw [h]; exact x8 (byte_lt hCb i) (by decide)
  have p5 : ∀ i, i < 32 → decide (bys (txt (C.set i (C.getD i 0 ^^^ 1))) = C) = false := by
    intro i hi
    rw [bys_txt (fl i hi)]
    simpa using flip_ne C i (by omega)
  have ex : ByteArray.extract (txt C) 1 (Int.toNat (((txt C).size : Nat) : Int)) = txt (C.drop 1) := by
    apply bys_inj
    rw [bys_txt (fun x hx => hCb x (List.mem_of_mem_drop hx)), bys_extract, bys_txt hCb, Int.toNat_natCast, hz, List.take_of_length_le (by omega)]
  have p6 : decide (bys (txt (C.drop 1)) = C) = false := by
    rw [bys_txt (fun x hx => hCb x (List.mem_of_mem_drop hx))]
    have : ¬ C.drop 1 = C := fun e => by have := congrArg List.length e; rw [List.length_drop] at this; omega
    simpa using this
  have p7 : decide (bys (txt C ++ ⟨#[0]⟩) = C) = false := by
    rw [bys_app, bys_txt hCb]
    have : ¬ C ++ bys ⟨#[0]⟩ = C := fun e => by have := congrArg List.length e; rw [List.length_append, z0] at this; simp at this
    simpa using this
  have fb : ∀ i, i < 32 → ofInts (List.take 32 (List.drop 0 (List.set (ii C) i (Go.bits .xor .u8 (rd (ii C) i) 1)))) = txt (C.set i (C.getD i 0 ^^^ 1)) := by
    intro i hi
    have h1 : Go.bits .xor .u8 ((C.getD i 0 : Nat) : Int) 1 = ((C.getD i 0 ^^^ 1 : Nat) : Int) := xor_u8 (b := 1) (byte_lt hCb i) (by decide)
    rw [ii_rd, h1, ii_set, List.drop_zero, ii_take, List.take_of_length_le (by rw [List.length_set]; omega)]
    rfl
  have hs0 : (ByteArray.size ⟨#[0]⟩) = 1 := rfl
  have e1 : ∀ y : Nat, 0 + (Int.toNat (y : Int)) * 1 = y := fun y => by simp
  have c5 : ∀ i, i < 32 → Pure Try.prog 25 [.string k, .string t, .string (ofInts (List.take (ByteArray.size (txt C)) (List.drop 0 (List.set (bytesOf (txt C)) i (Go.bits .xor .u8 (rd (bytesOf (txt C)) i) 1)))))] (.bool false) := by
    intro i hi
    rw [hz, hb, fb i hi, ← p5 i hi]
    exact ck _
  have c4 : Pure Try.prog 25 [.string k, .string t, .string (txt C)] (.bool true) := by rw [← p4]; exact ck _
  have c6 : Pure Try.prog 25 [.string k, .string t, .string (ByteArray.extract (txt C) 1 (Int.toNat (((txt C).size : Nat) : Int)))] (.bool false) := by rw [ex, ← p6]; exact ck _
  have c7 : Pure Try.prog 25 [.string k, .string t, .string (txt C ++ ⟨#[0]⟩)] (.bool false) := by rw [← p7]; exact ck _
  by_cases h0 : 0 < c.size
  · have b0 : bt c 0 = (((bys c).getD 0 0 : Nat) : Int) := bt_bys c 0
    have hb0 := bys_getD_lt c 0
    have m0 : Int.tmod (bt c 0) 32 = (((bys c).getD 0 0 % 32 : Nat) : Int) := by
      rw [b0, Int.tmod_eq_emod_of_nonneg (by omega)]; omega
    have hm : (bys c).getD 0 0 % 32 < 32 := Nat.mod_lt _ (by decide)
    exact f7.ok (f7.s4 (by simp; omega) (by simp; omega) (by simp; omega) h4 (by simp; omega) (by omega) (by rw [b0]; omega) (by rw [m0, hz]; omega) (by rw [m0, e1, hb, ii_len, hCl]; exact hm) awake_ok rfl (ck c) p3 c4 rfl (by rw [m0, e1, List.length_set, hb, ii_len, hCl, hz]; decide) (by rw [m0, e1]; exact c5 _ hm) rfl (by rw [hz]; decide) c6 rfl (by rw [hz, hs0]; decide) c7)
  · exact f7.ok (f7.s5 (by simp; omega) (by simp; omega) (by simp; omega) h4 (by rw [show c.size = 0 by omega]; decide) (by rw [hz]; decide) (by rw [hb, ii_len, hCl]; decide) awake_ok rfl (ck c) p3 c4 rfl (by rw [List.length_set, hb, ii_len, hCl, hz]; decide) (c5 0 (by decide)) rfl (by rw [hz]; decide) c6 rfl (by rw [hz, hs0]; decide) c7)
theorem key0_sha (k : List Nat) (h : 64 < k.length) : key0 (sha k) = key0 k := by
  unfold key0; rw [if_pos h, if_neg (by rw [sha_len]; decide)]
theorem padM_sha (k : List Nat) (h : 64 < k.length) (c : Nat) : padM (sha k) c = padM k c := by unfold padM; rw [key0_sha k h]
theorem code_sha (k t : List Nat) (h : 64 < k.length) : code (sha k) t = code k t := by unfold code; rw [padM_sha k h, padM_sha k h]
theorem padM_zeros (k : List Nat) (z : Nat) (h : k.length + z ≤ 64) (c : Nat) : padM (k ++ List.replicate z 0) c = padM k c := by
  unfold padM key0
  rw [if_neg (by rw [List.length_append, List.length_replicate]; omega), if_neg (by omega)]
  unfold build
  apply List.map_congr_left
  intro i _
  congr 1
  rw [List.getD_eq_getElem?_getD, List.getD_eq_getElem?_getD, List.getElem?_append]
  split
  · rfl
  · rename_i hge
    rw [List.getElem?_eq_none (l := k) (by omega), List.getElem?_replicate]
    split <;> rfl
theorem code_zeros (k t : List Nat) (z : Nat) (h : k.length + z ≤ 64) : code (k ++ List.replicate z 0) t = code k t := by unfold code; rw [padM_zeros k z h, padM_zeros k z h]
theorem pads_ok (k t : ByteArray) (x : Int) : Pure Try.prog 8 [.string k, .string t, .int .i64 x] (.bool true) := by
  by_cases hk : 300 < k.size
  · exact f8.ok (f8.s1 (by simp; omega) awake_ok)
  by_cases ht : 300 < t.size
  · exact f8.ok (f8.s2 (by simp; omega) (by simp; omega) awake_ok)
  have hc := code1_ok k (by omega) t (by omega)
  by_cases h64 : 64 < k.size
  · have h8 := code1_ok (txt (sha (bys k))) (by rw [txt_size, sha_len]; decide) t (by omega)
    rw [bys_txt (sha_lt _), code_sha _ _ (by rw [bys_len]; exact h64)] at h8
    refine f8.ok (cst (f8.s3 (by simp; omega) (by simp; omega) (by simp; omega) awake_ok rfl hc (rsum_ok k (by omega)) h8) ?_ rfl)
    simp
  · have hb : -(65 : Int) < Int.tmod x 65 ∧ Int.tmod x 65 < 65 := tmod_bd x 65 (by decide)
    obtain ⟨e, hlt⟩ := tmod_twice x 65 (by decide)
    have e' : Int.tmod (Int.tmod x 65 + 65) 65 = (((x % 65).toNat : Nat) : Int) := e
    have hlt' : (x % 65).toNat < 65 := hlt
    have hm : ∃ z : Nat, gMin (Int.tmod (Int.tmod x 65 + 65) 65) (64 - ((k.size : Nat) : Int)) = (z : Int) ∧ k.size + z ≤ 64 := by
      refine ⟨(gMin (Int.tmod (Int.tmod x 65 + 65) 65) (64 - ((k.size : Nat) : Int))).toNat, ?_, ?_⟩
      · rw [e']; unfold gMin; split <;> omega
      · rw [e']; unfold gMin; split <;> omega
    obtain ⟨z, hz, hzk⟩ := hm
    have ez : ofInts (List.take z (List.drop 0 (List.replicate z (0 : Int)))) = txt (List.replicate z 0) := by
      rw [List.drop_zero, ii_rep, ii_take, List.take_of_length_le (by rw [List.length_replicate]; exact Nat.le_refl _)]; rfl
    have z0' : ∀ x ∈ List.replicate z 0, x < 256 := by intro x hx; rw [(List.mem_replicate.1 hx).2]; decide
    have zs : (txt (List.replicate z 0)).size = z := by rw [txt_size, List.length_replicate]
    have hks : (k ++ txt (List.replicate z 0)).size = k.size + z := by rw [ByteArray.size_append, zs]
    have h12 := code1_ok (k ++ txt (List.replicate z 0)) (by rw [hks]; omega) t (by omega)
    have h15 := check_ok (k ++ txt (List.replicate z 0)) t (txt (code (bys k) (bys t))) (by rw [hks]; omega) (by omega)
    rw [bys_app, bys_txt z0', code_zeros _ _ z (by rw [bys_len]; exact hzk)] at h12 h15
    rw [bys_txt (code_lt _ _)] at h15
    rw [show (decide (code (bys k) (bys t) = code (bys k) (bys t))) = true by simp] at h15
    have hz2 := hz
    refine f8.ok (f8.s4 (u2 := txt (code (bys k) (bys t))) (u3 := txt (code (bys k) (bys t))) (u4 := txt (code (bys k) (bys t))) (by simp; omega) (by simp; omega) (by simp; omega) (by omega) (by omega) ?_ ?_ ?_ awake_ok rfl hc ?_ (by simp) hc ?_)
    · rw [hz]; omega
    · rw [hz, Int.toNat_natCast]; simp
    · rw [hz, Int.toNat_natCast, ez, zs]; omega
    · rw [hz, Int.toNat_natCast, ez]; exact h12
    · rw [hz, Int.toNat_natCast, ez]; exact h15

theorem expands_row (a : ByteArray) (wa : a.size ≤ 140737488351232) (b : ByteArray) (wb : b.size ≤ 140737488351232) (x : Int) (w : (Lit.int .i64 x).wf = true) : FnOk Try.prog 3 [.string a, .string b, .int .i64 x] [] (.bool true) [] := expands_ok a b x
theorem keys_row (a : ByteArray) (wa : a.size ≤ 140737488351232) (b : ByteArray) (wb : b.size ≤ 140737488351232) (x : Int) (w : (Lit.int .i64 x).wf = true) : FnOk Try.prog 4 [.string a, .string b, .int .i64 x] [] (.bool true) [] := keys2_ok a b x
theorem begins_row (a : ByteArray) (wa : a.size ≤ 140737488351232) (b : ByteArray) (wb : b.size ≤ 140737488351232) (x : Int) (w : (Lit.int .i64 x).wf = true) : FnOk Try.prog 5 [.string a, .string b, .int .i64 x] [] (.bool true) [] := begins_ok a b x
theorem codes_row (k : ByteArray) (wk : k.size ≤ 140737488351232) (ts : List ByteArray) (hl : ts.length ≤ 9223372036854775807) : FnOk Try.prog 6 [.string k, .slice (some ⟨0, 0, none⟩) (Row.len (.strs ts)) 0] [some ⟨false, 9, .strs ts⟩] (.bool true) [some ⟨false, 9, .strs ts⟩] := codes_ok k ts hl
theorem checks_row (a : ByteArray) (wa : a.size ≤ 140737488351232) (b : ByteArray) (wb : b.size ≤ 140737488351232) (c : ByteArray) (wc : c.size ≤ 140737488351232) : FnOk Try.prog 7 [.string a, .string b, .string c] [] (.bool true) [] := checks_ok a b c
theorem pads_row (a : ByteArray) (wa : a.size ≤ 140737488351232) (b : ByteArray) (wb : b.size ≤ 140737488351232) (x : Int) (w : (Lit.int .i64 x).wf = true) : FnOk Try.prog 8 [.string a, .string b, .int .i64 x] [] (.bool true) [] := pads_ok a b x
end Go.Proofs.Ytdopibfclonfjaa.Abs.Seg04

