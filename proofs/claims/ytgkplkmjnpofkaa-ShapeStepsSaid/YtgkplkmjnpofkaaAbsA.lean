/- An evaluator of the model's code on told values, proved sound, first part: values, blocks, operations. -/
import Derived.Below
import Derived.Laws.Slices
import Derived.Laws.BytesArg
import Derived.Laws.BytesString
import Derived.Laws.MakeOwn
import Derived.Laws.OwnMore
import Derived.Laws.Rows
import Derived.Laws.BitsLemmas
import Derived.Laws.CopyRow
import Derived.Laws.IdiomStrings
import Derived.Orders
import Derived.WalkKit
import Derived.KernelRfl
import Derived.RowKit3
set_option linter.unusedVariables false
set_option linter.unusedSimpArgs false
set_option maxRecDepth 100000
namespace Go.Proofs.Ytgkplkmjnpofkaa.Abs
open Go Go.RowKit

/-! ### 1. Values and blocks -/
def rd (xs : List Int) (i : Nat) : Int := xs.getD i 0
def bt (s : ByteArray) (i : Int) : Int := if h : i.toNat < s.size then ((s[i.toNat]'h).toNat : Int) else 0
def bytesOf (s : ByteArray) : List Int := s.data.toList.map fun b => (b.toNat : Int)
def ofInts (xs : List Int) : ByteArray := ⟨(xs.map fun n => UInt8.ofNat n.toNat).toArray⟩

inductive Row where
  | ints (k : IntKind) (xs : List Int)
  | strs (xs : List ByteArray)
  | vals (vs : List Value)

def Row.cells : Row → List Value
  | .ints k xs => xs.map (.int k)
  | .strs xs => xs.map .string
  | .vals vs => vs

def Row.len : Row → Nat
  | .ints _ xs => xs.length
  | .strs xs => xs.length
  | .vals vs => vs.length

theorem Row.len_eq (R : Row) : R.cells.length = R.len := by cases R <;> simp [Row.cells, Row.len]

structure Blk where
  wr : Bool
  ty : TypeId
  row : Row

abbrev Heap := List (Option Blk)
/-- Where a key lies; of a block that may be written: how many cells it has. -/
structure Place where
  addr : Addr
  cap : Option Nat
abbrev Loc := Nat → Option Place

inductive F2 {α γ : Type} (R : α → γ → Prop) : List α → List γ → Prop
  | nil : F2 R [] []
  | cons {a : α} {b : γ} {l : List α} {l' : List γ} : R a b → F2 R l l' → F2 R (a :: l) (b :: l')

def V1 (β : Loc) : Value → Value → Prop
  | .pointer (some p), v' => ∃ A, β p.block = some A ∧ p.spot = none ∧ v' = .pointer (some (A.addr.add p.off))
  | .slice (some p) n _, v' => p.spot = none ∧ ((n = 0 ∧ v' = .slice none 0 0) ∨ ∃ A, β p.block = some A ∧ ∃ A' c', v' = .slice (some A') n c' ∧ n ≤ c' ∧ (0 < n ∨ p.off = 0 → A' = A.addr.add p.off) ∧ ∀ N, A.cap = some N → p.off + c' ≤ N)
  | .slice none n c, v' => n = 0 ∧ c = 0 ∧ v' = .slice none 0 0
  | .agg _, _ => False
  | .tuple _, _ => False
  | .func _ _ _, _ => False
  | .iface _ _, _ => False
  | .map _, _ => False
  | .chan _, _ => False
  | v, v' => v' = v

def V2 (β : Loc) : Value → Value → Prop
  | .agg cs, v' => ∃ cs', v' = .agg cs' ∧ F2 (V1 β) cs.toList cs'.toList
  | v, v' => V1 β v v'

def V (β : Loc) : Value → Value → Prop
  | .tuple vs, v' => ∃ vs', v' = .tuple vs' ∧ F2 (V2 β) vs.toList vs'.toList
  | v, v' => V2 β v v'

def Loc.le (β β' : Loc) : Prop := ∀ κ a, β κ = some a → β' κ = some a

theorem Loc.le_refl (β : Loc) : β.le β := fun _ _ h => h
theorem Loc.le_trans {β β' β'' : Loc} (h : β.le β') (h' : β'.le β'') : β.le β'' := fun κ a e => h' κ a (h κ a e)

theorem V1.mono {β β' : Loc} (h : β.le β') {v v' : Value} (hv : V1 β v v') : V1 β' v v' := by
  unfold V1 at *
  split at hv
  · obtain ⟨A, h1, h2⟩ := hv; exact ⟨A, h _ _ h1, h2⟩
  · obtain ⟨h0, hn | ⟨A, h1, h2⟩⟩ := hv
    · exact ⟨h0, .inl hn⟩
    · exact ⟨h0, .inr ⟨A, h _ _ h1, h2⟩⟩
  all_goals exact hv

theorem forall2_mono {α γ : Type} {R S : α → γ → Prop} (h : ∀ a b, R a b → S a b) {l : List α} {l' : List γ} (hl : F2 R l l') : F2 S l l' := by
  induction hl with
  | nil => exact .nil
  | cons a _ ih => exact .cons (h _ _ a) ih

theorem V2.mono {β β' : Loc} (h : β.le β') {v v' : Value} (hv : V2 β v v') : V2 β' v v' := by
  unfold V2 at *
  split at hv
  · obtain ⟨cs', h1, h2⟩ := hv; exact ⟨cs', h1, forall2_mono (fun _ _ => V1.mono h) h2⟩
  · exact V1.mono h hv

theorem V.mono {β β' : Loc} (h : β.le β') {v v' : Value} (hv : V β v v') : V β' v v' := by
  unfold V at *
  split at hv
  · obtain ⟨cs', h1, h2⟩ := hv; exact ⟨cs', h1, forall2_mono (fun _ _ => V2.mono h) h2⟩
  · exact V2.mono h hv

theorem forall2_get {α γ : Type} {R : α → γ → Prop} {l : List α} {l' : List γ} (h : F2 R l l') : l.length = l'.length ∧ ∀ (i : Nat) a, l[i]? = some a → ∃ b, l'[i]? = some b ∧ R a b := by
  induction h with
  | nil => simp
  | cons hd _ ih =>
    refine ⟨by simp [ih.1], fun i a ha => ?_⟩
    cases i with
    | zero => simp at ha ⊢; subst ha; exact hd
    | succ i => simpa using ih.2 i a (by simpa using ha)

theorem forall2_of_get {α γ : Type} {R : α → γ → Prop} {l : List α} {l' : List γ} (h1 : l.length = l'.length) (h2 : ∀ (i : Nat) a, l[i]? = some a → ∃ b, l'[i]? = some b ∧ R a b) : F2 R l l' := by
  induction l generalizing l' with
  | nil =>
    cases l' with
    | nil => exact .nil
    | cons => simp at h1
  | cons a l ih =>
    cases l' with
    | nil => simp at h1
    | cons b l' =>
      refine .cons ?_ (ih (by simpa using h1) fun i x hx => by simpa using h2 (i + 1) x (by simpa using hx))
      obtain ⟨c, hc, hr⟩ := h2 0 a rfl
      simp at hc; subst hc; exact hr

/-- A value without addresses. -/
def Flat1 : Value → Bool
  | .pointer (some _) | .slice (some _) _ _ | .agg _ | .tuple _ | .func .. | .iface .. | .map _ | .chan _ => false
  | .slice none n c => n == 0 && c == 0
  | _ => true

theorem V1_flat {β : Loc} {v v' : Value} (h : Flat1 v = true) : V1 β v v' ↔ v' = v := by
  unfold Flat1 at h
  split at h <;> simp_all [V1]

theorem forall2_flat {β : Loc} {l l' : List Value} (h : ∀ v ∈ l, Flat1 v = true) (hf : F2 (V1 β) l l') : l' = l := by
  induction hf with
  | nil => rfl
  | cons hd _ ih =>
    rw [(V1_flat (h _ (by simp))).1 hd, ih fun v hv => h v (by simp [hv])]

theorem forall2_flat_mk {β : Loc} {l : List Value} (h : ∀ v ∈ l, Flat1 v = true) : F2 (V1 β) l l := by
  induction l with
  | nil => exact .nil
  | cons a l ih => exact .cons ((V1_flat (h a (by simp))).2 rfl) (ih fun v hv => h v (by simp [hv]))

/-- A result or an argument without addresses. -/
def Flat2 : Value → Prop
  | .agg cs => ∀ v ∈ cs.toList, Flat1 v = true
  | v => Flat1 v = true
def Flat : Value → Prop
  | .tuple vs => ∀ v ∈ vs.toList, Flat2 v
  | v => Flat2 v

theorem V2_flat {β : Loc} {v v' : Value} (h : Flat2 v) : V2 β v v' ↔ v' = v := by
  unfold Flat2 at h
  split at h
  · simp only [V2]
    constructor
    · rintro ⟨cs', rfl, hf⟩
      have := forall2_flat h hf
      congr 1
      exact Array.toList_inj.1 this
    · rintro rfl
      exact ⟨_, rfl, forall2_flat_mk h⟩
  · rename_i hne
    rw [← V1_flat (β := β) h]
    unfold V2
    split
    · exact absurd rfl (hne _)
    · rfl

theorem V_flat {β : Loc} {v v' : Value} (h : Flat v) : V β v v' ↔ v' = v := by
  unfold Flat at h
  split at h
  · simp only [V]
    rename_i vs
    have key : ∀ {l l' : List Value}, (∀ v ∈ l, Flat2 v) → (F2 (V2 β) l l' ↔ l' = l) := by
      intro l
      induction l with
      | nil => intro l' _; constructor
               · intro h; cases h; rfl
               · rintro rfl; exact .nil
      | cons a l ih =>
        intro l' hl
        constructor
        · intro hf
          cases hf with
          | cons h1 h2 => rw [(V2_flat (hl _ (by simp))).1 h1, (ih fun v hv => hl v (by simp [hv])).1 h2]
        · rintro rfl
          exact .cons ((V2_flat (hl _ (by simp))).2 rfl) ((ih fun v hv => hl v (by simp [hv])).2 rfl)
    constructor
    · rintro ⟨cs', rfl, hf⟩
      congr 1
      exact Array.toList_inj.1 ((key h).1 hf)
    · rintro rfl
      exact ⟨_, rfl, (key h).2 rfl⟩
  · rename_i hne
    rw [← V2_flat (β := β) h]
    unfold V
    split
    · exact absurd rfl (hne _)
    · rfl

/-! ### 2. Memory -/
def Readable (β : Loc) (w : World) (a : Addr) (cells : List Value) : Prop := ∀ (j : Nat) v, cells[j]? = some v → ∃ v', w.cell? (a.add j) = some v' ∧ V1 β v v'

structure Own (β : Loc) (w : World) (a : Addr) (N : Nat) (ty : TypeId) (cells : List Value) : Prop where
  off : a.off = 0
  blk : ∃ (cur : Array Value) (fr : Nat × Nat), w.heap[a.block]? = some (.cells cur ty fr) ∧ cur.size = N ∧ (∀ (j : Nat), j < N → ¬ (fr.1 ≤ j ∧ j < fr.2)) ∧ cells.length ≤ N ∧
    ∀ (j : Nat) v, cells[j]? = some v → ∃ v', cur[j]? = some v' ∧ V1 β v v'

def BlkAt (β : Loc) (w : World) (A : Place) (B : Blk) : Prop :=
  A.addr.spot = none ∧ (if B.wr then ∃ N, A.cap = some N ∧ Own β w A.addr N B.ty B.row.cells else A.cap = none ∧ Readable β w A.addr B.row.cells)

structure RelB (β : Loc) (H : Heap) (w : World) : Prop where
  blk : ∀ κ B a, H[κ]? = some (some B) → β κ = some a → BlkAt β w a B
  sep : ∀ κ κ' B B' a a', H[κ]? = some (some B) → H[κ']? = some (some B') → β κ = some a → β κ' = some a' → κ ≠ κ' → B.wr = true → (B'.wr = true ∨ B'.row.cells ≠ []) → a.addr.block ≠ a'.addr.block
  spot : ∀ κ a, β κ = some a → a.addr.spot = none

theorem add_none {a : Addr} (h : a.spot = none) (n : Nat) : a.add n = ⟨a.block, a.off + n, none⟩ := by
  unfold Addr.add
  split
  · subst_vars; cases a; simp_all
  · cases a; simp_all

theorem add_add {a : Addr} (h : a.spot = none) (m n : Nat) : (a.add m).add n = a.add (m + n) := by
  rw [add_none h, add_none rfl, add_none h]; simp [Nat.add_assoc]

theorem Own.readable {β : Loc} {w : World} {a : Addr} {N : Nat} {ty : TypeId} {cells : List Value} (hs : a.spot = none) (h : Own β w a N ty cells) : Readable β w a cells := by
  obtain ⟨h0, cur, fr, hg, _, _, _, hc⟩ := h
  intro j v hv
  obtain ⟨v', h1, h2⟩ := hc j v hv
  refine ⟨v', ?_, h2⟩
  rw [add_none hs, h0, Nat.zero_add]
  simp [World.cell?, hg, h1]

theorem BlkAt.readable {β : Loc} {w : World} {a : Place} {B : Blk} (h : BlkAt β w a B) : Readable β w a.addr B.row.cells := by
  obtain ⟨hs, h⟩ := h
  split at h
  · obtain ⟨N, _, h⟩ := h; exact h.readable hs
  · exact h.2

theorem Own.lt {β : Loc} {w : World} {a : Addr} {N : Nat} {ty : TypeId} {cells : List Value} (h : Own β w a N ty cells) : a.block < w.heap.size := by
  obtain ⟨h0, cur, fr, hg, _⟩ := h
  exact (Array.getElem?_eq_some_iff.1 hg).1

/-- A block of which something is told was there. -/
theorem BlkAt.lt {β : Loc} {w : World} {a : Place} {B : Blk} (h : BlkAt β w a B) (hn : B.wr = true ∨ B.row.cells ≠ []) : a.addr.block < w.heap.size := by
  by_cases hw : B.wr = true
  · have h2 := h.2
    rw [if_pos hw] at h2
    obtain ⟨N, _, h2⟩ := h2
    exact h2.lt
  · have hr := h.readable
    have hne := hn.resolve_left hw
    cases hc : B.row.cells with
    | nil => exact absurd hc hne
    | cons v r =>
      obtain ⟨v', h1, _⟩ := hr 0 v (by rw [hc]; rfl)
      have := World.block_lt_of_cell? w _ h1
      simpa [Addr.add] using this

/-- The world has grown: what was there stands. -/
abbrev WExt (w w' : World) : Prop := Below w.heap.size w w'

theorem Readable.ext {β β' : Loc} (hb : β.le β') {w w' : World} (h : WExt w w') {a : Addr} {cells : List Value} (hr : Readable β w a cells) : Readable β' w' a cells := by
  intro j v hv
  obtain ⟨v', h1, h2⟩ := hr j v hv
  exact ⟨v', by rw [h.cell (World.block_lt_of_cell? w _ h1)]; exact h1, V1.mono hb h2⟩

theorem Own.ext {β β' : Loc} (hb : β.le β') {w w' : World} {a : Addr} {N : Nat} (hw : w'.heap[a.block]? = w.heap[a.block]?) {ty : TypeId} {cells : List Value} (hr : Own β w a N ty cells) : Own β' w' a N ty cells := by
  obtain ⟨h0, cur, fr, hg, hN, hf, hl, hc⟩ := hr
  exact ⟨h0, cur, fr, hw.trans hg, hN, hf, hl, fun j v hv => let ⟨v', a, b⟩ := hc j v hv; ⟨v', a, V1.mono hb b⟩⟩

theorem Readable.same {β β' : Loc} (hb : β.le β') {w w' : World} {a : Addr} (hw : w'.heap[a.block]? = w.heap[a.block]?) {cells : List Value} (hr : Readable β w a cells) : Readable β' w' a cells := by
  intro j v hv
  obtain ⟨v', h1, h2⟩ := hr j v hv
  refine ⟨v', ?_, V1.mono hb h2⟩
  have e : (a.add j).block = a.block := by unfold Addr.add; split <;> rfl
  rw [World.cell?_of_block (w := w) (by rw [e]; exact hw)]
  exact h1

/-- A block that stands as it stood. -/
theorem BlkAt.same {β β' : Loc} (hb : β.le β') {w w' : World} {a : Place} (hw : w'.heap[a.addr.block]? = w.heap[a.addr.block]?) {B : Blk} (hB : BlkAt β w a B) : BlkAt β' w' a B := by
  obtain ⟨hs, hr⟩ := hB
  refine ⟨hs, ?_⟩
  split
  · rename_i hm
    rw [if_pos hm] at hr
    obtain ⟨N, h1, h2⟩ := hr
    exact ⟨N, h1, h2.ext hb hw⟩
  · rename_i hm
    rw [if_neg hm] at hr
    exact ⟨hr.1, hr.2.same hb hw⟩

theorem BlkAt.ext {β β' : Loc} (hb : β.le β') {w w' : World} (h : WExt w w') {a : Place} {B : Blk} (hB : BlkAt β w a B) : BlkAt β' w' a B := by
  by_cases hn : B.wr = true ∨ B.row.cells ≠ []
  · exact hB.same hb (h.block _ (hB.lt hn))
  · have h1 : ¬ B.wr = true := fun e => hn (.inl e)
    have h2 : B.row.cells = [] := Classical.byContradiction fun e => hn (.inr e)
    have h3 := hB.2
    rw [if_neg h1] at h3
    refine ⟨hB.1, ?_⟩
    rw [if_neg h1, h2]
    refine ⟨h3.1, fun j v hv => ?_⟩
    simp at hv

end Go.Proofs.Ytgkplkmjnpofkaa.Abs
namespace Go.Proofs.Ytgkplkmjnpofkaa.Abs
open Go Go.RowKit

/-! ### 3. Types -/
inductive TV where
  | int (k : IntKind) | bool | str | arr (n : Nat) (e : TypeId) | slice (e : TypeId) | struct (fs : List (Nat × TypeId)) | ptr (e : TypeId) | other

def tvOf : TypeDesc → TV
  | .int k => .int k | .bool => .bool | .string => .str | .array n e => .arr n e | .slice e => .slice e
  | .struct fs => .struct (fs.toList.map fun f => (f.offset, f.type)) | .pointer e => .ptr e | _ => .other

structure TI where
  tv : TV
  size : Nat
  bytes : Nat
  zrow : Row

structure TIok (P : Program) (t : TypeId) (ti : TI) : Prop where
  tv : (P.underlying t).map tvOf = some ti.tv
  sz : (P.info? t).map (fun i => (i.size, i.bytes)) = some (ti.size, ti.bytes)
  zero : ((P.info? t).bind (·.zero)).map (fun z => z.cells.toList) = some ti.zrow.cells

abbrev Types := List (Nat × TI)
def Types.look : Types → TypeId → Option TI
  | [], _ => none
  | (u, ti) :: r, t => if Nat.beq t u then some ti else look r t

def Types.Ok (P : Program) : Types → Prop
  | [] => True
  | (t, ti) :: r => TIok P t ti ∧ Types.Ok P r

theorem Types.Ok.look {P : Program} {Θ : Types} (h : Θ.Ok P) {t : TypeId} {ti : TI} (hl : Θ.look t = some ti) : TIok P t ti := by
  induction Θ with
  | nil => simp [Types.look] at hl
  | cons x r ih =>
    obtain ⟨u, ui⟩ := x
    simp only [Types.look] at hl
    split at hl
    · rename_i he
      have := Nat.eq_of_beq_eq_true he
      subst this
      simp at hl; subst hl
      exact h.1
    · exact ih h.2 hl

section
variable {P : Program} {t : TypeId} {ti : TI}
theorem TIok.desc (h : TIok P t ti) : ∃ d, P.underlying t = some d ∧ tvOf d = ti.tv := by
  have := h.tv
  cases hd : P.underlying t with
  | none => simp [hd] at this
  | some d => exact ⟨d, rfl, by simpa [hd] using this⟩
theorem TIok.info (h : TIok P t ti) : ∃ i z, P.info? t = some i ∧ i.size = ti.size ∧ i.bytes = ti.bytes ∧ i.zero = some z ∧ z.cells.toList = ti.zrow.cells := by
  have h1 := h.sz
  have h2 := h.zero
  cases hi : P.info? t with
  | none => simp [hi] at h1
  | some i =>
    simp [hi] at h1 h2
    obtain ⟨z, hz, hc⟩ := h2
    exact ⟨i, z, rfl, h1.1, h1.2, hz, hc⟩
theorem TIok.int (h : TIok P t ti) {k : IntKind} (he : ti.tv = .int k) : P.underlying t = some (.int k) := by
  obtain ⟨d, hd, e⟩ := h.desc
  rw [he] at e
  cases d <;> simp [tvOf] at e
  subst e; exact hd
theorem TIok.bool (h : TIok P t ti) (he : ti.tv = .bool) : P.underlying t = some .bool := by
  obtain ⟨d, hd, e⟩ := h.desc
  rw [he] at e
  cases d <;> simp [tvOf] at e
  exact hd
theorem TIok.str (h : TIok P t ti) (he : ti.tv = .str) : P.underlying t = some .string := by
  obtain ⟨d, hd, e⟩ := h.desc
  rw [he] at e
  cases d <;> simp [tvOf] at e
  exact hd
theorem TIok.slice (h : TIok P t ti) {e' : TypeId} (he : ti.tv = .slice e') : P.underlying t = some (.slice e') := by
  obtain ⟨d, hd, e⟩ := h.desc
  rw [he] at e
  cases d <;> simp [tvOf] at e
  subst e; exact hd
theorem TIok.arr (h : TIok P t ti) {n : Nat} {e' : TypeId} (he : ti.tv = .arr n e') : P.underlying t = some (.array n e') := by
  obtain ⟨d, hd, e⟩ := h.desc
  rw [he] at e
  cases d <;> simp [tvOf] at e
  obtain ⟨rfl, rfl⟩ := e; exact hd
theorem TIok.struct (h : TIok P t ti) {l : List (Nat × TypeId)} (he : ti.tv = .struct l) : ∃ fs, P.underlying t = some (.struct fs) ∧ fs.toList.map (fun f => (f.offset, f.type)) = l := by
  obtain ⟨d, hd, e⟩ := h.desc
  rw [he] at e
  cases d <;> simp [tvOf] at e
  exact ⟨_, hd, e⟩
theorem TIok.sizeOf (h : TIok P t ti) (w : World) : (Go.sizeOf t).run P w = .ok ti.size w := by
  obtain ⟨i, z, hi, hs, _⟩ := h.info
  simp [Go.sizeOf, typeInfo, hi, hs]
theorem TIok.elem (h : TIok P t ti) {e' : TypeId} (he : ti.tv = .slice e') : P.underlying t = some (.slice (P.elem t)) ∧ P.elem t = e' := by
  have := h.slice he
  have h2 : P.elem t = e' := by simp [Program.elem, this]
  exact ⟨by rw [h2]; exact this, h2⟩
end

/-! ### 4. Reckoning with scalars -/
def lo : IntKind → Int
  | .i8 => -128 | .i16 => -32768 | .i32 => -2147483648 | .i64 => -9223372036854775808 | _ => 0
def hi : IntKind → Int
  | .i8 => 127 | .i16 => 32767 | .i32 => 2147483647 | .i64 => 9223372036854775807
  | .u8 => 255 | .u16 => 65535 | .u32 => 4294967295 | .u64 => 18446744073709551615

theorem wrap_in (k : IntKind) (n : Int) (h0 : lo k ≤ n) (h1 : n ≤ hi k) : k.wrap n = n := by
  cases k <;> simp only [IntKind.wrap, IntKind.bits, IntKind.signed, lo, hi] at * <;> simp <;> omega

/-- The wrap, written out. -/
def wrapE : IntKind → Int → Int
  | .u8, n => n % 256
  | .u16, n => n % 65536
  | .u32, n => n % 4294967296
  | .u64, n => n % 18446744073709551616
  | k, n => k.wrap n
theorem wrapE_eq (k : IntKind) (n : Int) : wrapE k n = k.wrap n := by
  cases k <;> simp [wrapE, IntKind.wrap, IntKind.signed, IntKind.bits]

/-- A sum's outcome: a signed one must fit; an unsigned one wraps. -/
def arith : IntKind → Int → Value × Prop
  | .i8, r => (.int .i8 r, -128 ≤ r ∧ r ≤ 127)
  | .i16, r => (.int .i16 r, -32768 ≤ r ∧ r ≤ 32767)
  | .i32, r => (.int .i32 r, -2147483648 ≤ r ∧ r ≤ 2147483647)
  | .i64, r => (.int .i64 r, -9223372036854775808 ≤ r ∧ r ≤ 9223372036854775807)
  | k, r => (.int k (wrapE k r), True)

theorem arith_ok {k : IntKind} {r : Int} (h : (arith k r).2) : (arith k r).1 = .int k (k.wrap r) := by
  cases k <;> simp only [arith] at h ⊢ <;> first
    | rw [wrapE_eq]
    | rw [wrap_in _ _ h.1 h.2]

def incl : IntKind → IntKind → Bool
  | .u8, .u16 | .u8, .u32 | .u8, .u64 | .u8, .i16 | .u8, .i32 | .u8, .i64 | .u16, .u32 | .u16, .u64 | .u16, .i32 | .u16, .i64 | .u32, .u64 | .u32, .i64
  | .i8, .i16 | .i8, .i32 | .i8, .i64 | .i16, .i32 | .i16, .i64 | .i32, .i64 => true
  | .u8, .u8 | .u16, .u16 | .u32, .u32 | .u64, .u64 | .i8, .i8 | .i16, .i16 | .i32, .i32 | .i64, .i64 => true
  | _, _ => false

def evBin (op : BinOp) (nn : Bool) : Value → Value → Option (Value × Prop)
  | .int k a, .int k' b =>
    match op with
    | .shl => some (.int k (wrapE k (a * 2 ^ b.toNat)), 0 ≤ b ∧ b ≤ k.bits)
    | .shr => some (.int k (a / 2 ^ b.toNat), 0 ≤ b ∧ b ≤ k.bits)
    | _ =>
      if k = k' then
        match op with
        | .add => some (arith k (a + b))
        | .sub => some (arith k (a - b))
        | .mul => some (arith k (a * b))
        | .quo => if nn then some (.int k (a / b), 0 ≤ a ∧ 0 < b ∧ a ≤ hi k) else some (.int k (a.tdiv b), b ≠ 0 ∧ lo k ≤ a.tdiv b ∧ a.tdiv b ≤ hi k)
        | .rem => if nn then some (.int k (a % b), 0 ≤ a ∧ 0 < b) else some (.int k (a.tmod b), b ≠ 0)
        | .and => some (.int k (bits .and k a b), True)
        | .or => some (.int k (bits .or k a b), True)
        | .xor => some (.int k (bits .xor k a b), True)
        | .andNot => some (.int k (bits .andNot k a b), True)
        | .eql => some (.bool (decide (a = b)), True)
        | .neq => some (.bool (!decide (a = b)), True)
        | .lss => some (.bool (decide (a < b)), True)
        | .leq => some (.bool (decide (a ≤ b)), True)
        | .gtr => some (.bool (decide (b < a)), True)
        | .geq => some (.bool (decide (b ≤ a)), True)
        | _ => none
      else none
  | .string a, .string b =>
    match op with
    | .add => some (.string (a ++ b), (a.size : Int) + b.size ≤ 9223372036854775807)
    | .eql => some (.bool (decide (a = b)), True)
    | .neq => some (.bool (!decide (a = b)), True)
    | .lss => some (.bool (Op.bytesLess a.toList b.toList), True)
    | _ => none
  | .bool a, .bool b =>
    match op with
    | .eql => some (.bool (a == b), True)
    | .neq => some (.bool (!(a == b)), True)
    | _ => none
  | _, _ => none

theorem some2 {α : Type} {a a' : α} {C C' : Prop} (h : some (a, C) = some (a', C')) : a = a' ∧ C = C' := by
  have := Option.some.inj h
  exact ⟨congrArg Prod.fst this, congrArg Prod.snd this⟩

theorem toList_beq (a b : ByteArray) : (a.toList == b.toList) = decide (a = b) := by
  by_cases h : a = b
  · subst h; simp
  · rw [decide_eq_false h, beq_eq_false_iff_ne]
    intro he
    apply h
    rw [ByteArray.toList_eq, ByteArray.toList_eq] at he
    cases a; cases b
    simp only at he
    congr 1
    exact Array.toList_inj.1 he

theorem int_beq (a b : Int) : (a == b) = decide (a = b) := rfl

theorem run_equalIn_bool {P : Program} {w : World} {t : TypeId} (d : Nat) (a b : Bool) (hu : P.underlying t = some .bool) : (Op.equalIn (d + 1) t (.bool a) (.bool b)).run P w = .ok (a == b) w := by
  simp [Op.equalIn, run_underlying hu]

theorem evBin_ok {P : Program} {w : World} {t : TypeId} {op : BinOp} {nn : Bool} {x y v : Value} {C : Prop} (h : evBin op nn x y = some (v, C)) (hC : C)
    (hb : ∀ a b, x = .bool a → y = .bool b → P.underlying t = some .bool) :
    (binOp op t x y).run P w = .ok v w ∧ ∀ ox oy, (eqGuard op t ox oy x y).run P w = .ok () w := by
  unfold evBin at h
  split at h
  · rename_i k a k' b
    have hg : ∀ ox oy, (eqGuard op t ox oy (.int k a) (.int k' b)).run P w = .ok () w := by
      intro ox oy; cases op <;> simp [eqGuard]
    refine ⟨?_, hg⟩
    split at h
    · obtain ⟨rfl, rfl⟩ := some2 h
      rw [show binOp .shl t (.int k a) (.int k' b) = Op.shift .shl k a k' b from rfl, shift_shl _ _ _ _ hC.1 hC.2, wrapE_eq]; rfl
    · obtain ⟨rfl, rfl⟩ := some2 h
      rw [show binOp .shr t (.int k a) (.int k' b) = Op.shift .shr k a k' b from rfl, shift_shr _ _ _ _ hC.1 hC.2]; rfl
    · split at h
      · rename_i h1 h2 hk
        subst hk
        split at h
        · have := Option.some.inj h
          have e := arith_ok (k := k) (r := a + b) (by rw [this]; exact hC)
          rw [this] at e; simp only at e; subst e; simp [binOp, Op.intArith]
        · have := Option.some.inj h
          have e := arith_ok (k := k) (r := a - b) (by rw [this]; exact hC)
          rw [this] at e; simp only at e; subst e; simp [binOp, Op.intArith]
        · have := Option.some.inj h
          have e := arith_ok (k := k) (r := a * b) (by rw [this]; exact hC)
          rw [this] at e; simp only at e; subst e; simp [binOp, Op.intArith]
        · split at h
          · obtain ⟨rfl, rfl⟩ := some2 h
            obtain ⟨h1, h2, h3⟩ := hC
            have e : a.tdiv b = a / b := Int.tdiv_eq_ediv_of_nonneg h1
            have l1 : 0 ≤ a / b := Int.ediv_nonneg h1 (by omega)
            have l2 : a / b ≤ a := Int.ediv_le_self _ h1
            have l0 : lo k ≤ 0 := by cases k <;> simp [lo]
            have : k.wrap (a / b) = a / b := wrap_in k _ (by omega) (by omega)
            simp [binOp, Op.intDiv, show b ≠ 0 by omega, e, this]
          · obtain ⟨rfl, rfl⟩ := some2 h
            obtain ⟨h1, h2, h3⟩ := hC
            simp [binOp, Op.intDiv, h1, wrap_in k _ h2 h3]
        · split at h
          · obtain ⟨rfl, rfl⟩ := some2 h
            obtain ⟨h1, h2⟩ := hC
            have e : a.tmod b = a % b := Int.tmod_eq_emod_of_nonneg h1
            simp [binOp, Op.intDiv, show b ≠ 0 by omega, e]
          · obtain ⟨rfl, rfl⟩ := some2 h
            simp [binOp, Op.intDiv, hC]
        all_goals first
          | (obtain ⟨rfl, rfl⟩ := some2 h
             simp [binOp, Op.intBits, bits, Op.intCmp, int_beq]; done)
          | (obtain ⟨rfl, rfl⟩ := some2 h
             simp [binOp, Op.intCmp, bne, int_beq]; done)
          | simp at h
      · simp at h
  · rename_i a b
    have hg : ∀ ox oy, (eqGuard op t ox oy (.string a) (.string b)).run P w = .ok () w := by
      intro ox oy; cases op <;> simp [eqGuard]
    refine ⟨?_, hg⟩
    split at h
    · obtain ⟨rfl, rfl⟩ := some2 h
      have : ¬ (((a.size + b.size : Nat) : Int) > IntKind.i64.max) := by
        simp only [IntKind.max, IntKind.signed, IntKind.bits]; simp; omega
      simp only [binOp, Op.stringOp, if_neg this]; rfl
    · obtain ⟨rfl, rfl⟩ := some2 h
      simp only [binOp, Op.stringOp, toList_beq]; rfl
    · obtain ⟨rfl, rfl⟩ := some2 h
      simp only [binOp, Op.stringOp, toList_beq]; rfl
    · obtain ⟨rfl, rfl⟩ := some2 h
      simp only [binOp, Op.stringOp]; rfl
    · simp at h
  · rename_i a b
    have hg : ∀ ox oy, (eqGuard op t ox oy (.bool a) (.bool b)).run P w = .ok () w := by
      intro ox oy; cases op <;> simp [eqGuard]
    have hu := hb a b rfl rfl
    refine ⟨?_, hg⟩
    have he : (Op.equal t (.bool a) (.bool b)).run P w = .ok (a == b) w := run_equalIn_bool 9999 a b hu
    split at h
    · obtain ⟨rfl, rfl⟩ := some2 h
      simp only [binOp, Sem.run_bind, he, Result.andThen_ok, Sem.run_pure]
    · obtain ⟨rfl, rfl⟩ := some2 h
      simp only [binOp, Sem.run_bind, he, Result.andThen_ok, Sem.run_pure]
    · simp at h
  · simp at h

def evUn (op : UnOp) : Value → Option (Value × Prop)
  | .int k n =>
    match op with
    | .neg => some (arith k (0 - n))
    | .xor => some (.int k (bits .xor k (if k.signed then -1 else hi k) n), True)
    | _ => none
  | .bool b => match op with
    | .not => some (.bool (!b), True)
    | _ => none
  | _ => none

theorem evUn_ok {P : Program} {w : World} {op : UnOp} {x v : Value} {C : Prop} (h : evUn op x = some (v, C)) (hC : C) : (Op.unary op x).run P w = .ok v w := by
  unfold evUn at h
  split at h
  · rename_i k n
    split at h
    · have := Option.some.inj h
      have e := arith_ok (k := k) (r := 0 - n) (by rw [this]; exact hC)
      rw [this] at e; simp only at e; subst e; simp [Op.unary, Op.intArith]
    · obtain ⟨rfl, rfl⟩ := some2 h
      cases k <;> simp [Op.unary, Op.intBits, bits, IntKind.signed, hi, IntKind.max, IntKind.bits]
    · simp at h
  · split at h
    · obtain ⟨rfl, rfl⟩ := some2 h
      simp [Op.unary]
    · simp at h
  · simp at h

end Go.Proofs.Ytgkplkmjnpofkaa.Abs
namespace Go.Proofs.Ytgkplkmjnpofkaa.Abs
open Go Go.RowKit

/-! ### 5. States, relations -/
abbrev Slots := List (Option Value)

structure TR (β : Loc) (T : Slots) (a : Act) : Prop where
  len : T.length ≤ a.tmps.size
  at_ : ∀ (i : Nat) v, T[i]? = some (some v) → ∃ v', a.tmps[i]? = some v' ∧ V β v v'

theorem TR.mono {β β' : Loc} (h : β.le β') {T : Slots} {a : Act} (ht : TR β T a) : TR β' T a :=
  ⟨ht.len, fun i v hv => let ⟨v', a, b⟩ := ht.at_ i v hv; ⟨v', a, V.mono h b⟩⟩

def setSlot (T : Slots) (d : Option Tmp) (v : Value) : Slots :=
  match d with
  | some d => T.set d (some v)
  | none => T

theorem TR.put {β : Loc} {T : Slots} {a : Act} (ht : TR β T a) (d : Option Tmp) {v v' : Value} (hv : V β v v') : TR β (setSlot T d v) (a.put d v') := by
  cases d with
  | none => exact ht
  | some d =>
    refine ⟨by simpa [setSlot, Act.put] using ht.len, fun i u hu => ?_⟩
    simp only [setSlot] at hu
    rw [List.getElem?_set] at hu
    simp only [Act.put]
    split at hu
    · rename_i hdi
      subst hdi
      split at hu
      · rename_i hlt
        simp at hu; subst hu
        refine ⟨v', ?_, hv⟩
        have := ht.len
        rw [Array.getElem?_setIfInBounds_self_of_lt (by omega)]
      · simp at hu
    · rename_i hne
      rw [Array.getElem?_setIfInBounds_ne hne]
      exact ht.at_ i u hu

/-- An operand's abstract value. -/
def opd (T : Slots) : Operand → Option Value
  | .tmp t => (T.getD t none)
  | .const v => if Flat1 v = true then some v else none
  | _ => none

theorem opd_ok {β : Loc} {T : Slots} {a : Act} (ht : TR β T a) {x : Operand} {v : Value} (h : opd T x = some v) : V β v (a.eval x) := by
  unfold opd at h
  split at h
  · rename_i t
    have : T[t]? = some (some v) := by
      rw [List.getD_eq_getElem?_getD] at h
      cases ht : T[t]? with
      | none => simp [ht] at h
      | some u => simp [ht] at h; rw [h]
    obtain ⟨v', h1, h2⟩ := ht.at_ t v this
    simp [Act.eval, h1, h2]
  · split at h
    · rename_i hf
      simp at h; subst h
      rw [V_flat]
      · rfl
      · have hf' := hf
        unfold Flat1 at hf
        unfold Flat
        split
        · simp at hf
        · unfold Flat2
          split
          · simp at hf
          · exact hf'
    · simp at h
  · simp at h

/-- What an operation that writes to no block that was there has done. -/
structure StepQ (β : Loc) (H : Heap) (N : Option Blk) (v : Value) (w : World) (β' : Loc) (v' : Value) (w' : World) : Prop where
  le : β.le β'
  val : V β' v v'
  ext : WExt w w'
  only : ∀ κ a, β' κ = some a → β κ = some a ∨ (κ = H.length ∧ N ≠ none ∧ w.heap.size ≤ a.addr.block ∧ a.addr.spot = none)
  new : ∀ B, N = some B → ∃ A, β' H.length = some A ∧ BlkAt β' w' A B ∧ w.heap.size ≤ A.addr.block ∧ A.addr.block < w'.heap.size ∧ B.wr = true

def Soft (P : Program) (o : Oper) (a : Act) (β : Loc) (H : Heap) (w : World) (N : Option Blk) (v : Value) : Prop :=
  ∀ (K : Act → World → Prop) (Q : Exit → Act → World → Prop), (∀ β' v' w', StepQ β H N v w β' v' w' → K (a.put o.dst v') w') → o.wp P a w K Q

theorem soft_value {P : Program} {o : Oper} {a : Act} {β : Loc} {H : Heap} {w : World} {v v' : Value}
    (hrun : (execOp a.eval o).run P w = .ok (.value v') w) (hv : V β v v') : Soft P o a β H w none v := by
  intro K Q h
  unfold Oper.wp
  rw [hrun]
  exact h β v' w ⟨Loc.le_refl _, hv, Below.refl _ _, fun κ a h => .inl h, fun B hB => by cases hB⟩

/-- A world with a new block. -/
theorem soft_new {P : Program} {o : Oper} {a : Act} {β : Loc} {H : Heap} {w w' : World} {v v' : Value} {B : Blk} {g cap : Nat}
    (hrun : (execOp a.eval o).run P w = .ok (.value v') w') (hext : WExt w w') (hg : w.heap.size ≤ g) (hg' : g < w'.heap.size) (hkey : β H.length = none) (hwr : B.wr = true)
    (hv : ∀ β', β.le β' → β' H.length = some ⟨⟨g, 0, none⟩, some cap⟩ → V β' v v') (hB : ∀ β', β.le β' → β' H.length = some ⟨⟨g, 0, none⟩, some cap⟩ → Own β' w' ⟨g, 0, none⟩ cap B.ty B.row.cells) : Soft P o a β H w (some B) v := by
  intro K Q h
  unfold Oper.wp
  rw [hrun]
  let β' : Loc := fun κ => if κ = H.length then some ⟨⟨g, 0, none⟩, some cap⟩ else β κ
  have hle : β.le β' := by
    intro κ A hA
    by_cases e : κ = H.length
    · subst e; rw [hkey] at hA; cases hA
    · simp only [β', if_neg e]; exact hA
  have hself : β' H.length = some ⟨⟨g, 0, none⟩, some cap⟩ := by simp [β']
  refine h β' v' w' ⟨hle, hv β' hle hself, hext, fun κ A hA => ?_, fun B' hB' => ?_⟩
  · by_cases e : κ = H.length
    · simp only [β', if_pos e, Option.some.injEq] at hA
      subst hA
      exact .inr ⟨e, by simp, hg, rfl⟩
    · simp only [β', if_neg e] at hA
      exact .inl hA
  · obtain rfl := Option.some.inj hB'
    refine ⟨_, hself, ⟨rfl, ?_⟩, hg, hg', hwr⟩
    rw [if_pos hwr]
    exact ⟨cap, rfl, hB β' hle hself⟩

/-! ### 6. The operations that write to nothing that was there -/
inductive Hint where
  | b (b : Bool)
  | row (R : Row)
  | call (v : Value)
  | callH (ι : List Nat) (as : List Value) (Hs' : Heap) (v vc : Value)
  | ord (l : List Nat) (m : Nat)
  | callF (v : Value) (H' : Heap)
  | held (K : List Nat) (l : List Nat)
  | callR (ι : List Nat) (as : List Value) (v : Value) (Hs' : Heap)

/-- A block of this type is a package-level variable's: the type tells which. -/
def globMark : Nat := 1000000000
def GlobOk (β : Loc) (H : Heap) : Prop := ∀ κ B g, H[κ]? = some (some B) → B.wr = false → B.ty = globMark + g → β κ = some ⟨⟨g, 0, none⟩, none⟩
structure Rel (β : Loc) (H : Heap) (w : World) : Prop extends RelB β H w where
  dom : ∀ κ, H.length ≤ κ → β κ = none
  glob : GlobOk β H

structure Tr (β : Loc) (H : Heap) (w : World) (β' : Loc) (H' : Heap) (w' : World) : Prop where
  le : β.le β'
  len : H.length ≤ H'.length
  fix : ∀ κ A, κ < H.length → β' κ = some A → β κ = some A
  rel : Rel β' H' w'
  os : w'.os = w.os
  tape : w'.tape = w.tape
  output : w'.output = w.output
  size : w.heap.size ≤ w'.heap.size
  frame : ∀ b, b < w.heap.size → (∀ κ B A, H[κ]? = some (some B) → B.wr = true → β κ = some A → A.addr.block ≠ b) → w'.heap[b]? = w.heap[b]?
  muts : ∀ κ B A, H'[κ]? = some (some B) → B.wr = true → β' κ = some A → w.heap.size ≤ A.addr.block ∨ ∃ κ0 B0 A0, H[κ0]? = some (some B0) ∧ B0.wr = true ∧ β κ0 = some A0 ∧ A0.addr.block = A.addr.block

structure FnOk (P : Program) (f : FuncId) (args : List Value) (H : Heap) (v : Value) (H' : Heap) : Prop where
  fn : ∃ fn, P.funcs[f]? = some fn ∧ (fn.name == "runtime.NumGoroutine") = false ∧ fn.body.isSome = true
  goes : ∀ (β : Loc) (vs : List Value) (w : World), F2 (V β) args vs → Rel β H w →
    Calls P f vs.toArray w (fun e w' => ∃ β' v', e = .returned v' ∧ V β' v v' ∧ Tr β H w β' H' w')

/-- A call of which only numbers, bools and texts come in and go out. -/
abbrev Pure (P : Program) (f : FuncId) (args : List Value) (v : Value) : Prop := FnOk P f args [] v []

def FlatL : List Value → Prop
  | [] => True
  | v :: l => Flat v ∧ FlatL l

theorem FlatL.eq {β : Loc} {l l' : List Value} (h : FlatL l) (hf : F2 (V β) l l') : l' = l := by
  induction hf with
  | nil => rfl
  | cons hd _ ih => rw [(V_flat h.1).1 hd, ih h.2]
theorem FlatL.mk {β : Loc} {l : List Value} (h : FlatL l) : F2 (V β) l l := by
  induction l with
  | nil => exact .nil
  | cons a l ih => exact .cons ((V_flat h.1).2 rfl) (ih h.2)

/-- Cells of one kind, told as a row. -/
def allInt (k : IntKind) : List Value → Option (List Int)
  | [] => some []
  | .int k' n :: r => if k = k' then (allInt k r).map (n :: ·) else none
  | _ => none
def allStr : List Value → Option (List ByteArray)
  | [] => some []
  | .string s :: r => (allStr r).map (s :: ·)
  | _ => none
def typed : TV → List Value → Row
  | .int k, l => match allInt k l with | some xs => .ints k xs | none => .vals l
  | .str, l => match allStr l with | some xs => .strs xs | none => .vals l
  | _, l => .vals l

theorem allInt_cells {k : IntKind} {l : List Value} {xs : List Int} (h : allInt k l = some xs) : xs.map (Value.int k) = l := by
  induction l generalizing xs with
  | nil => simp [allInt] at h; subst h; rfl
  | cons v r ih =>
    unfold allInt at h
    split at h
    · rename_i heq; cases heq
    · rename_i k' n r' heq
      obtain ⟨rfl, rfl⟩ := List.cons.inj heq
      split at h
      · rename_i hk; subst hk
        cases hr : allInt k r with
        | none => simp [hr] at h
        | some ys => simp [hr] at h; subst h; simp [ih hr]
      · simp at h
    · simp at h
theorem allStr_cells {l : List Value} {xs : List ByteArray} (h : allStr l = some xs) : xs.map Value.string = l := by
  induction l generalizing xs with
  | nil => simp [allStr] at h; subst h; rfl
  | cons v r ih =>
    unfold allStr at h
    split at h
    · rename_i heq; cases heq
    · rename_i s r' heq
      obtain ⟨rfl, rfl⟩ := List.cons.inj heq
      cases hr : allStr r with
      | none => simp [hr] at h
      | some ys => simp [hr] at h; subst h; simp [ih hr]
    · simp at h
theorem typed_cells (tv : TV) (l : List Value) : (typed tv l).cells = l := by
  unfold typed
  split
  · split
    · rename_i h; exact allInt_cells h
    · rfl
  · split
    · rename_i h; exact allStr_cells h
    · rfl
  · rfl

/-- One cell of a row. -/
def Row.get (R : Row) (i : Nat) : Option (Value × Prop) :=
  match R with
  | .ints k xs => some (.int k (rd xs i), i < xs.length)
  | .strs xs => some (.string (xs.getD i ByteArray.empty), i < xs.length)
  | .vals vs => (vs[i]?).map fun v => (v, True)
theorem Row.get_ok {R : Row} {i : Nat} {v : Value} {C : Prop} (h : R.get i = some (v, C)) (hC : C) : R.cells[i]? = some v := by
  unfold Row.get at h
  split at h
  · obtain ⟨rfl, rfl⟩ := some2 h
    simp [Row.cells, rd, List.getElem?_eq_getElem hC]
  · obtain ⟨rfl, rfl⟩ := some2 h
    simp [Row.cells, List.getElem?_eq_getElem hC]
  · rename_i vs
    cases hv : vs[i]? with
    | none => simp [hv] at h
    | some u => simp [hv] at h; simp [Row.cells, hv, h.1]

/-- A stretch of a row, as the cells of an array or a struct. -/
def Row.aggOf (R : Row) (o n : Nat) : Value × Prop :=
  match R with
  | .vals vs => (.agg ((vs.drop o).take n).toArray, o + n ≤ vs.length)
  | R => (.agg R.cells.toArray, o = 0 ∧ R.len = n)
theorem Row.aggOf_ok {R : Row} {o n : Nat} (hC : (R.aggOf o n).2) : (R.aggOf o n).1 = .agg ((R.cells.drop o).take n).toArray ∧ o + n ≤ R.cells.length := by
  unfold Row.aggOf at *
  split
  · exact ⟨rfl, hC⟩
  · rename_i hne
    obtain ⟨rfl, h2⟩ : o = 0 ∧ R.len = n := by
      cases R with
      | vals vs => exact absurd rfl (hne vs)
      | ints k xs => exact hC
      | strs xs => exact hC
    subst h2
    rw [← Row.len_eq]
    simp

def Types.tv (Θ : Types) (t : TypeId) : Option TV := (Θ.look t).map (·.tv)
def Types.siz (Θ : Types) (t : TypeId) : Option Nat := (Θ.look t).map (·.size)

/-- The content of a slice, as a list of one kind. -/
def sub (R : Row) (o n : Nat) : Row :=
  match R with
  | .ints k xs => .ints k ((xs.drop o).take n)
  | .strs xs => .strs ((xs.drop o).take n)
  | .vals vs => .vals ((vs.drop o).take n)
theorem sub_cells (R : Row) (o n : Nat) : (sub R o n).cells = (R.cells.drop o).take n := by
  cases R <;> simp [sub, Row.cells]

def key? (H : Heap) (κ : Nat) : Option Blk := (H.getD κ none)
theorem key?_ok {H : Heap} {κ : Nat} {B : Blk} (h : key? H κ = some B) : H[κ]? = some (some B) := by
  unfold key? at h
  rw [List.getD_eq_getElem?_getD] at h
  cases hk : H[κ]? with
  | none => simp [hk] at h
  | some u => simp [hk] at h; rw [h]

end Go.Proofs.Ytgkplkmjnpofkaa.Abs
namespace Go.Proofs.Ytgkplkmjnpofkaa.Abs
open Go Go.RowKit

def RunV (P : Program) (w : World) (β : Loc) (m : Sem Value) (v : Value) : Prop := ∃ v', m.run P w = .ok v' w ∧ V β v v'

section
variable {β : Loc} {v' : Value}
theorem V_int {k : IntKind} {n : Int} : V β (.int k n) v' ↔ v' = .int k n := Iff.rfl
theorem V_bool {b : Bool} : V β (.bool b) v' ↔ v' = .bool b := Iff.rfl
theorem V_string {s : ByteArray} : V β (.string s) v' ↔ v' = .string s := Iff.rfl
theorem V_ptr {p : Addr} : V β (.pointer (some p)) v' ↔ ∃ A, β p.block = some A ∧ p.spot = none ∧ v' = .pointer (some (A.addr.add p.off)) := Iff.rfl
theorem V_nilptr : V β (.pointer none) v' ↔ v' = .pointer none := Iff.rfl
theorem V_slice {p : Addr} {n c : Nat} : V β (.slice (some p) n c) v' ↔ p.spot = none ∧ ((n = 0 ∧ v' = .slice none 0 0) ∨ ∃ A, β p.block = some A ∧ ∃ A' c', v' = .slice (some A') n c' ∧ n ≤ c' ∧ (0 < n ∨ p.off = 0 → A' = A.addr.add p.off) ∧ ∀ N, A.cap = some N → p.off + c' ≤ N) := Iff.rfl
theorem V_nilslice {n c : Nat} : V β (.slice none n c) v' ↔ n = 0 ∧ c = 0 ∧ v' = .slice none 0 0 := Iff.rfl
theorem V_agg {cs : Array Value} : V β (.agg cs) v' ↔ ∃ cs', v' = .agg cs' ∧ F2 (V1 β) cs.toList cs'.toList := Iff.rfl
theorem V_tuple {vs : Array Value} : V β (.tuple vs) v' ↔ ∃ vs', v' = .tuple vs' ∧ F2 (V2 β) vs.toList vs'.toList := Iff.rfl
theorem V_of_V2 {v : Value} (h : V2 β v v') (hne : ∀ vs, v ≠ .tuple vs) : V β v v' := by
  unfold V
  split
  · exact absurd rfl (hne _)
  · exact h
theorem V2_of_V1 {v : Value} (h : V1 β v v') : V2 β v v' := by
  unfold V2
  split
  · simp [V1] at h
  · exact h
theorem V_of_V1 {v : Value} (h : V1 β v v') : V β v v' := V_of_V2 (V2_of_V1 h) (fun vs e => by subst e; simp [V1] at h)
theorem V2_tuple {vs : Array Value} : V2 β (.tuple vs) v' ↔ False := Iff.rfl
end

def scalar : Value → Bool
  | .int .. | .bool _ | .string _ => true
  | _ => false
theorem scalar_V {β : Loc} {v v' : Value} (h : scalar v = true) : V β v v' ↔ v' = v := by
  unfold scalar at h
  split at h <;> simp_all [V, V2, V1]

theorem evBin_scalar {op : BinOp} {nn : Bool} {x y v : Value} {C : Prop} (h : evBin op nn x y = some (v, C)) : scalar x = true ∧ scalar y = true ∧ scalar v = true := by
  unfold evBin at h
  split at h
  · rename_i k a k' b
    refine ⟨rfl, rfl, ?_⟩
    split at h
    · obtain ⟨rfl, -⟩ := some2 h; rfl
    · obtain ⟨rfl, -⟩ := some2 h; rfl
    · split at h
      · have ha : ∀ r, scalar (arith k r).1 = true := by intro r; cases k <;> rfl
        split at h <;> first
          | (split at h <;> (obtain ⟨rfl, -⟩ := some2 h; rfl))
          | (obtain ⟨rfl, -⟩ := some2 h; rfl)
          | (have e : _ = v := congrArg Prod.fst (Option.some.inj h); subst e; exact ha _)
          | simp at h
      · simp at h
  · refine ⟨rfl, rfl, ?_⟩
    split at h <;> first
      | (obtain ⟨rfl, -⟩ := some2 h; rfl)
      | simp at h
  · refine ⟨rfl, rfl, ?_⟩
    split at h <;> first
      | (obtain ⟨rfl, -⟩ := some2 h; rfl)
      | simp at h
  · simp at h

theorem evUn_scalar {op : UnOp} {x v : Value} {C : Prop} (h : evUn op x = some (v, C)) : scalar x = true ∧ scalar v = true := by
  unfold evUn at h
  split at h
  · rename_i k n
    refine ⟨rfl, ?_⟩
    have ha : ∀ r, scalar (arith k r).1 = true := by intro r; cases k <;> rfl
    split at h <;> first
      | (obtain ⟨rfl, -⟩ := some2 h; rfl)
      | (have e : _ = v := congrArg Prod.fst (Option.some.inj h); subst e; exact ha _)
      | simp at h
  · refine ⟨rfl, ?_⟩
    split at h <;> first
      | (obtain ⟨rfl, -⟩ := some2 h; rfl)
      | simp at h
  · simp at h

/-! #### Texts: a byte, a part -/
def evIndex : Value → Value → Option (Value × Prop)
  | .string s, .int _ i => some (.int .u8 (bt s i), 0 ≤ i ∧ i < s.size)
  | _, _ => none

section
variable {P : Program} {w : World} {β : Loc}
theorem evIndex_ok {t : TypeId} {x i v x' i' : Value} {C : Prop} (h : evIndex x i = some (v, C)) (hC : C) (hx : V β x x') (hi : V β i i') (ht : P.underlying t = some .string) : RunV P w β (Instr.index t x' i') v := by
  unfold evIndex at h
  split at h
  · rename_i s k i
    obtain ⟨rfl, rfl⟩ := some2 h
    obtain rfl := V_string.1 hx
    obtain rfl := V_int.1 hi
    refine ⟨_, ?_, rfl⟩
    rw [run_index_string (P := P) (w := w) t s k i ht, dif_pos hC]
    congr 2
    unfold bt
    rw [dif_pos (by omega)]
  · simp at h

def bnd : Option Value → Int → Option Int
  | none, d => some d
  | some (.int _ i), _ => some i
  | _, _ => none

def evSliceS (s : ByteArray) (lo hi : Option Value) : Option (Value × Prop) :=
  match bnd lo 0, bnd hi s.size with
  | some l, some h => some (.string (s.extract l.toNat h.toNat), 0 ≤ l ∧ l ≤ h ∧ h ≤ s.size)
  | _, _ => none

theorem run_sliceBound_some {k : IntKind} {i : Int} {y : Nat} {c : BoundsCode} (h0 : 0 ≤ i) (h1 : i ≤ y) : (Instr.sliceBound (.int k i) y c).run P w = .ok i.toNat w := run_sliceBound (P := P) w k i y c h0 h1

/-- The bounds of a part. -/
theorem run_bounds {isS : Bool} {len cap : Nat} {lo hi : Option Value} {l h : Int} (hl : bnd lo 0 = some l) (hh : bnd hi len = some h) (h0 : 0 ≤ l) (h1 : l ≤ h) (h2 : h ≤ len) (h3 : len ≤ cap) :
    (Instr.sliceBounds isS len cap lo hi none).run P w = .ok (l.toNat, h.toNat, cap) w := by
  unfold Instr.sliceBounds
  have e1 : ∀ c, (match lo with | some v => Instr.sliceBound v h.toNat c | none => (pure 0 : Sem Nat)).run P w = .ok l.toNat w := by
    intro c
    unfold bnd at hl
    split at hl
    · simp at hl; subst hl; simp
    · rename_i i _; simp at hl; subst hl
      exact run_sliceBound_some h0 (by omega)
    · simp at hl
  have e2 : ∀ c, (match hi with | some v => Instr.sliceBound v cap c | none => (pure len : Sem Nat)).run P w = .ok h.toNat w := by
    intro c
    unfold bnd at hh
    split at hh
    · simp at hh; subst hh; simp
    · rename_i i _; simp at hh; subst hh
      exact run_sliceBound_some (by omega) (by omega)
    · simp at hh
  have e2' := e2 (if isS = true then BoundsCode.sliceAcap else BoundsCode.sliceAlen)
  cases hi with
  | none =>
    cases lo with
    | none => simp [bnd] at hl hh; subst hl; subst hh; simp
    | some v => have := e1 .sliceB; simp [bnd] at hh; subst hh; simp only [Int.toNat_natCast] at this ⊢; simp [this]
  | some u =>
    have := e2'
    cases lo with
    | none => simp [bnd] at hl; subst hl; simp at this; simp [this]
    | some v => have h' := e1 .sliceB; simp at this h'; simp [this, h']

theorem evSliceS_ok {t : TypeId} {s : ByteArray} {lo hi : Option Value} {v : Value} {C : Prop} (h : evSliceS s lo hi = some (v, C)) (hC : C) (ht : P.underlying t = some .string) :
    RunV P w β (Instr.sliceAt t (.string s) lo hi none) v := by
  unfold evSliceS at h
  split at h
  · rename_i l hh hl hhh
    obtain ⟨rfl, rfl⟩ := some2 h
    refine ⟨_, ?_, rfl⟩
    rw [run_sliceAt_string (P := P) (w := w) t _ _ _ _ ht]
    have hb := run_bounds (P := P) (w := w) (isS := false) (cap := s.size) hl hhh hC.1 hC.2.1 hC.2.2 (Nat.le_refl _)
    simp [Instr.slice, run_underlying ht, hb]
  · simp at h

/-! #### Places -/
def evIndexAddr (Θ : Types) (t : TypeId) : Value → Value → Option (Value × Prop)
  | .pointer (some p), .int _ i =>
    match Θ.tv t with
    | some (.arr n e) => match Θ.siz e with
      | some sz => some (.pointer (some ⟨p.block, p.off + i.toNat * sz, none⟩), 0 ≤ i ∧ i < n)
      | none => none
    | _ => none
  | .slice (some p) n _, .int _ i =>
    match Θ.tv t with
    | some (.slice e) => match Θ.siz e with
      | some sz => some (.pointer (some ⟨p.block, p.off + i.toNat * sz, none⟩), 0 ≤ i ∧ i < n)
      | none => none
    | _ => none
  | _, _ => none

theorem look_tv {Θ : Types} {t : TypeId} {tv : TV} (h : Θ.tv t = some tv) : ∃ ti, Θ.look t = some ti ∧ ti.tv = tv := by
  unfold Types.tv at h
  cases hl : Θ.look t with
  | none => simp [hl] at h
  | some ti => exact ⟨ti, rfl, by simpa [hl] using h⟩
theorem look_siz {Θ : Types} {t : TypeId} {n : Nat} (h : Θ.siz t = some n) : ∃ ti, Θ.look t = some ti ∧ ti.size = n := by
  unfold Types.siz at h
  cases hl : Θ.look t with
  | none => simp [hl] at h
  | some ti => exact ⟨ti, rfl, by simpa [hl] using h⟩

theorem evIndexAddr_ok {Θ : Types} (hΘ : Θ.Ok P) {H : Heap} (hR : RelB β H w) {t : TypeId} {x i v x' i' : Value} {C : Prop} (h : evIndexAddr Θ t x i = some (v, C)) (hC : C) (hx : V β x x') (hi : V β i i') :
    RunV P w β (Instr.indexAt t x' i') v := by
  unfold evIndexAddr at h
  split at h
  · rename_i p k i
    obtain rfl := V_int.1 hi
    split at h
    · rename_i n e htv
      split at h
      · rename_i sz hsz
        obtain ⟨rfl, rfl⟩ := some2 h
        obtain ⟨A, hA, hs, rfl⟩ := V_ptr.1 hx
        obtain ⟨ti, hti, e1⟩ := look_tv htv
        obtain ⟨ei, hei, e2⟩ := look_siz hsz
        have hu := (hΘ.look hti).arr e1
        have hsp := hR.spot _ _ hA
        have hz := (hΘ.look hei).sizeOf w
        rw [e2] at hz
        refine ⟨.pointer (some (A.addr.add (p.off + i.toNat * sz))), ?_, V_ptr.2 ⟨A, hA, rfl, rfl⟩⟩
        rw [← add_add hsp]
        simp [Instr.indexAt, run_underlying hu, Instr.sureAddr, asIntOf, hC, hz]
      · simp at h
    · simp at h
  · rename_i p n c k i
    obtain rfl := V_int.1 hi
    split at h
    · rename_i e htv
      split at h
      · rename_i sz hsz
        obtain ⟨rfl, rfl⟩ := some2 h
        obtain ⟨hs, hv⟩ := V_slice.1 hx
        obtain ⟨ti, hti, e1⟩ := look_tv htv
        obtain ⟨ei, hei, e2⟩ := look_siz hsz
        have hu := (hΘ.look hti).slice e1
        have hz := (hΘ.look hei).sizeOf w
        rw [e2] at hz
        have hn : 0 < n := by omega
        rcases hv with ⟨h0, _⟩ | ⟨A, hA, A', c', rfl, hc, ha, hN⟩
        · omega
        · have hsp := hR.spot _ _ hA
          obtain rfl := ha (.inl hn)
          refine ⟨.pointer (some (A.addr.add (p.off + i.toNat * sz))), ?_, V_ptr.2 ⟨A, hA, rfl, rfl⟩⟩
          rw [← add_add hsp]
          simp [Instr.indexAt, run_underlying hu, Instr.sureAddr, asIntOf, hC, hz]
      · simp at h
    · simp at h
  · simp at h

def evFieldAddr (Θ : Types) (t : TypeId) (f : Nat) : Value → Option (Value × Prop)
  | .pointer (some p) =>
    match Θ.tv t with
    | some (.struct fs) => match fs[f]? with
      | some (off, ft) => match Θ.siz ft with
        | some (_ + 1) => some (.pointer (some ⟨p.block, p.off + off, none⟩), True)
        | _ => none
      | none => none
    | _ => none
  | _ => none

theorem evFieldAddr_ok {Θ : Types} (hΘ : Θ.Ok P) {H : Heap} (hR : RelB β H w) {t : TypeId} {f : Nat} {x v x' : Value} {C : Prop} (h : evFieldAddr Θ t f x = some (v, C)) (hC : C) (hx : V β x x') :
    RunV P w β (Instr.fieldAt t x' f) v := by
  unfold evFieldAddr at h
  split at h
  · rename_i p
    split at h
    · rename_i fs htv
      split at h
      · rename_i off ft hf
        split at h
        · rename_i m hsz
          obtain ⟨rfl, rfl⟩ := some2 h
          obtain ⟨A, hA, hs, rfl⟩ := V_ptr.1 hx
          obtain ⟨ti, hti, e1⟩ := look_tv htv
          obtain ⟨ei, hei, e2⟩ := look_siz hsz
          obtain ⟨fl, hu, hfl⟩ := (hΘ.look hti).struct e1
          have hsp := hR.spot _ _ hA
          have hz := (hΘ.look hei).sizeOf w
          rw [e2] at hz
          have hf' : ∃ fd, fl[f]? = some fd ∧ fd.offset = off ∧ fd.type = ft := by
            rw [← hfl] at hf
            simp at hf
            obtain ⟨fd, h1, h2, h3⟩ := hf
            exact ⟨fd, by simpa using h1, h2, h3⟩
          obtain ⟨fd, hfd, rfl, rfl⟩ := hf'
          refine ⟨.pointer (some (A.addr.add (p.off + fd.offset))), ?_, V_ptr.2 ⟨A, hA, rfl, rfl⟩⟩
          rw [← add_add hsp]
          simp [Instr.fieldAt, run_underlying hu, Instr.sureAddr, hfd, fieldPlace, hz]
        · simp at h
      · simp at h
    · simp at h
  · simp at h

def evNil : Value → Option (Value × Prop)
  | .pointer (some p) => some (.pointer (some p), True)
  | _ => none

def evExtract (i : Nat) : Value → Option (Value × Prop)
  | .tuple vs => (vs.toList[i]?).bind fun v => match v with | .tuple _ => none | v => some (v, True)
  | _ => none

theorem evExtract_ok {i : Nat} {x v x' : Value} {C : Prop} (h : evExtract i x = some (v, C)) (hx : V β x x') : RunV P w β (Instr.extract x' i) v := by
  unfold evExtract at h
  split at h
  · rename_i vs
    obtain ⟨vs', rfl, hf⟩ := V_tuple.1 hx
    rw [Option.bind_eq_some_iff] at h
    obtain ⟨u, hu, h⟩ := h
    obtain ⟨v', hv', hr⟩ := (forall2_get hf).2 i u hu
    have hv'' : vs'[i]? = some v' := by simpa using hv'
    split at h
    · simp at h
    · rename_i hne
      obtain ⟨rfl, -⟩ := some2 h
      refine ⟨v', by simp [Instr.extract, hv''], V_of_V2 hr hne⟩
  · simp at h
end

end Go.Proofs.Ytgkplkmjnpofkaa.Abs
namespace Go.Proofs.Ytgkplkmjnpofkaa.Abs
open Go Go.RowKit

section
variable {P : Program} {w : World} {β : Loc}

def isAggTV : TV → Bool
  | .arr .. | .struct _ => true
  | _ => false

theorem run_isAgg {Θ : Types} (hΘ : Θ.Ok P) {t : TypeId} {tv : TV} (h : Θ.tv t = some tv) (ho : tv ≠ .other) (w : World) : (isAgg t).run P w = .ok (isAggTV tv) w := by
  obtain ⟨ti, hti, e1⟩ := look_tv h
  obtain ⟨d, hd, e⟩ := (hΘ.look hti).desc
  unfold isAgg
  rw [Sem.run_bind, run_underlying hd w]
  rw [e1] at e
  cases d <;> simp only [tvOf] at e <;> subst e <;> simp [isAggTV] <;> exact absurd rfl ho

/-! #### A part of an aggregate -/
def evField (Θ : Types) (t : TypeId) (f : Nat) : Value → Option (Value × Prop)
  | .agg cs =>
    match Θ.tv t with
    | some (.struct fs) => match fs[f]? with
      | some (off, ft) => match Θ.tv ft with
        | some .other => none
        | some tv => if isAggTV tv then (Θ.siz ft).map fun n => (.agg ((cs.toList.drop off).take n).toArray, off + n ≤ cs.size)
                     else match cs.toList[off]? with | some (.tuple _) => none | some v => some (v, True) | none => none
        | none => none
      | none => none
    | _ => none
  | _ => none

theorem forall2_sub {α γ : Type} {R : α → γ → Prop} {l : List α} {l' : List γ} (h : F2 R l l') (o n : Nat) : F2 R ((l.drop o).take n) ((l'.drop o).take n) := by
  have hg := forall2_get h
  refine forall2_of_get (by simp [hg.1]) fun i a ha => ?_
  rw [List.getElem?_take] at ha ⊢
  split at ha
  · rename_i hi
    rw [if_pos hi]
    rw [List.getElem?_drop] at ha ⊢
    exact hg.2 _ _ ha
  · simp at ha

theorem evField_ok {Θ : Types} (hΘ : Θ.Ok P) {t : TypeId} {f : Nat} {x v x' : Value} {C : Prop} (h : evField Θ t f x = some (v, C)) (hC : C) (hx : V β x x') : RunV P w β (Instr.field t x' f) v := by
  unfold evField at h
  split at h
  · rename_i cs
    obtain ⟨cs', rfl, hf2⟩ := V_agg.1 hx
    split at h
    · rename_i fs htv
      obtain ⟨ti, hti, e1⟩ := look_tv htv
      obtain ⟨fl, hu, hfl⟩ := (hΘ.look hti).struct e1
      split at h
      · rename_i off ft hf
        have hf' : ∃ fd, fl[f]? = some fd ∧ fd.offset = off ∧ fd.type = ft := by
          rw [← hfl] at hf
          simp at hf
          obtain ⟨fd, h1, h2, h3⟩ := hf
          exact ⟨fd, by simpa using h1, h2, h3⟩
        obtain ⟨fd, hfd, rfl, rfl⟩ := hf'
        split at h
        · simp at h
        · rename_i tv hne htv2
          have hag := run_isAgg hΘ htv2 (fun e => hne (by subst e; rfl)) w
          split at h
          · rename_i hagg
            cases hsz : Θ.siz fd.type with
            | none => simp [hsz] at h
            | some n =>
              simp only [hsz, Option.map_some] at h
              obtain ⟨rfl, rfl⟩ := some2 h
              obtain ⟨ei, hei, e2⟩ := look_siz hsz
              have hz := (hΘ.look hei).sizeOf w
              rw [e2] at hz
              refine ⟨.agg (cs'.extract fd.offset (fd.offset + n)), ?_, V_agg.2 ⟨_, rfl, ?_⟩⟩
              · simp [Instr.field, run_underlying hu, hfd, asAgg, part, hag, hagg, hz]
              · have := forall2_sub hf2 fd.offset n
                simpa [List.extract_eq_take_drop] using this
          · rename_i hagg
            split at h
            · simp at h
            · rename_i v' hne' hv'
              obtain ⟨rfl, rfl⟩ := some2 h
              obtain ⟨u, hu', hr⟩ := (forall2_get hf2).2 _ _ hv'
              have hu'' : cs'[fd.offset]? = some u := by simpa using hu'
              refine ⟨u, ?_, V_of_V1 hr⟩
              simp [Instr.field, run_underlying hu, hfd, asAgg, part, hag, hagg, hu'']
            · simp at h
        · simp at h
      · simp at h
    · simp at h
  · simp at h

/-! #### Loads -/
def evLoad (Θ : Types) (H : Heap) (t : TypeId) : Value → Option (Value × Prop)
  | .pointer (some p) =>
    match key? H p.block with
    | none => none
    | some B => match Θ.tv t with
      | none => none
      | some .other => none
      | some tv => if isAggTV tv then (Θ.siz t).map fun n => B.row.aggOf p.off n else B.row.get p.off
  | _ => none

theorem loadCells_ok {a : Addr} {cells : List Value} (hr : Readable β w a cells) (hs : a.spot = none) (o n : Nat) (hon : o + n ≤ cells.length) :
    ∃ cs', (loadCells (a.add o) n).run P w = .ok cs' w ∧ F2 (V1 β) ((cells.drop o).take n) cs'.toList := by
  have hch : ∀ j : Nat, j < n → ∃ v', w.cell? ((a.add o).add j) = some v' ∧ ∀ v, ((cells.drop o).take n)[j]? = some v → V1 β v v' := by
    intro j hj
    have hlt : o + j < cells.length := by omega
    obtain ⟨v', h1, h2⟩ := hr (o + j) _ (List.getElem?_eq_getElem hlt)
    refine ⟨v', by rw [add_add hs]; exact h1, fun v hv => ?_⟩
    rw [List.getElem?_take, if_pos hj, List.getElem?_drop, List.getElem?_eq_getElem hlt] at hv
    cases hv
    exact h2
  let f : Nat → Value := fun j => (w.cell? ((a.add o).add j)).getD undef
  have hf : ∀ j, j < n → w.cell? ((a.add o).add j) = some (f j) := by
    intro j hj
    obtain ⟨v', h1, _⟩ := hch j hj
    simp [f, h1]
  have hrun := run_loadCells_list (P := P) w (a.add o) ((List.range n).map f) (fun j v hv => by
    have hj : j < n := by
      rcases Nat.lt_or_ge j n with h | h
      · exact h
      · rw [List.getElem?_eq_none (by simpa using h)] at hv; cases hv
    rw [List.getElem?_map, List.getElem?_range hj] at hv
    cases hv
    exact hf j hj)
  simp only [List.length_map, List.length_range] at hrun
  refine ⟨_, hrun, ?_⟩
  refine forall2_of_get (by simp; omega) fun i v hv => ?_
  have hi : i < n := by
    rcases Nat.lt_or_ge i n with h | h
    · exact h
    · rw [List.getElem?_eq_none (by simp; omega)] at hv; cases hv
  obtain ⟨v', h1, h2⟩ := hch i hi
  refine ⟨f i, by simp [List.getElem?_range hi], ?_⟩
  have : f i = v' := by simp [f, h1]
  rw [this]
  exact h2 v hv

theorem evLoad_ok {Θ : Types} (hΘ : Θ.Ok P) {H : Heap} (hR : RelB β H w) {t : TypeId} {x v x' : Value} {C : Prop} (h : evLoad Θ H t x = some (v, C)) (hC : C) (hx : V β x x') : RunV P w β (Instr.loadAt t x') v := by
  unfold evLoad at h
  split at h
  · rename_i p
    obtain ⟨A, hA, hs, rfl⟩ := V_ptr.1 hx
    have hsp := hR.spot _ _ hA
    split at h
    · simp at h
    · rename_i B hB
      have hblk := (hR.blk _ _ _ (key?_ok hB) hA).readable
      split at h
      · simp at h
      · simp at h
      · rename_i tv hne htv
        have hag := run_isAgg hΘ htv (fun e => hne (by subst e; rfl)) w
        split at h
        · rename_i hagg
          cases hsz : Θ.siz t with
          | none => simp [hsz] at h
          | some n =>
            simp only [hsz, Option.map_some] at h
            have h' := Option.some.inj h
            have hC' : (B.row.aggOf p.off n).2 := by rw [h']; exact hC
            obtain ⟨e1, e2⟩ := Row.aggOf_ok hC'
            rw [h'] at e1
            simp only at e1
            subst e1
            obtain ⟨ei, hei, e3⟩ := look_siz hsz
            have hz := (hΘ.look hei).sizeOf w
            rw [e3] at hz
            obtain ⟨cs', hl, hf⟩ := loadCells_ok (P := P) hblk hsp p.off n e2
            refine ⟨.agg cs', ?_, V_agg.2 ⟨_, rfl, by simpa using hf⟩⟩
            simp [Instr.loadAt, Instr.sureAddr, loadVar, hag, hagg, hz, hl]
        · rename_i hagg
          have hg := Row.get_ok h hC
          obtain ⟨v', h1, h2⟩ := hblk _ _ hg
          refine ⟨v', ?_, V_of_V1 h2⟩
          simp [Instr.loadAt, Instr.sureAddr, loadVar, hag, hagg, run_load, h1]
  · simp at h

/-! #### Lengths, the greater and the smaller -/
def evLen (Θ : Types) (t : TypeId) : Value → Option (Value × Prop)
  | .string s => match Θ.tv t with | some .str => some (.int .i64 s.size, True) | _ => none
  | .slice _ n _ => match Θ.tv t with | some (.slice _) => some (.int .i64 n, True) | _ => none
  | _ => none

theorem evLen_ok {Θ : Types} (hΘ : Θ.Ok P) {t ty : TypeId} {x v x' : Value} {C : Prop} (h : evLen Θ t x = some (v, C)) (hx : V β x x') : RunV P w β (Builtin.len_ #[t] ty #[x']) v := by
  unfold evLen at h
  split at h
  · rename_i s
    obtain rfl := V_string.1 hx
    split at h
    · rename_i htv
      obtain ⟨rfl, -⟩ := some2 h
      obtain ⟨ti, hti, e1⟩ := look_tv htv
      refine ⟨_, run_len_string (P := P) (w := w) t ty s ((hΘ.look hti).str e1), rfl⟩
    · simp at h
  · rename_i a n c
    split at h
    · rename_i e htv
      obtain ⟨rfl, -⟩ := some2 h
      obtain ⟨ti, hti, e1⟩ := look_tv htv
      have hu := (hΘ.look hti).slice e1
      have key : ∀ a' c', (Builtin.len_ #[t] ty #[.slice a' n c']).run P w = .ok (.int .i64 n) w := by
        intro a' c'; simp [Builtin.len_, run_underlying hu, goInt]
      cases a with
      | none =>
        obtain ⟨rfl, rfl, rfl⟩ := V_nilslice.1 hx
        exact ⟨_, key _ _, rfl⟩
      | some p =>
        obtain ⟨-, ⟨rfl, rfl⟩ | ⟨A, hA, A', c', rfl, _⟩⟩ := V_slice.1 hx
        · exact ⟨_, key _ _, rfl⟩
        · exact ⟨_, key _ _, rfl⟩
    · simp at h
  · simp at h

def evFold (g : Int → Int → Int) : Int → IntKind → List Value → Option Int
  | x, _, [] => some x
  | x, k, .int k' y :: r => if k = k' then evFold g (g x y) k r else none
  | _, _, _ => none

def gMax (x y : Int) : Int := if x < y then y else x
def gMin (x y : Int) : Int := if y < x then y else x

def evMax (g : Int → Int → Int) : List Value → Option (Value × Prop)
  | .int k x :: r => (evFold g x k r).map fun z => (.int k z, True)
  | _ => none

theorem run_foldMax {k : IntKind} : ∀ (r : List Value) (x z : Int), evFold gMax x k r = some z → (r.foldlM Builtin.max2 (.int k x)).run P w = .ok (.int k z) w
  | [], x, z, h => by simp [evFold] at h; subst h; rfl
  | v :: r, x, z, h => by
    unfold evFold at h
    split at h
    · rename_i heq; cases heq
    · rename_i heq; obtain ⟨rfl, rfl⟩ := List.cons.inj heq
      split at h
      · rename_i hk; subst hk
        have := run_foldMax r _ _ h
        simp only [List.foldlM_cons, Builtin.max2]
        simpa [gMax] using this
      · simp at h
    · simp at h
theorem run_foldMin {k : IntKind} : ∀ (r : List Value) (x z : Int), evFold gMin x k r = some z → (r.foldlM Builtin.min2 (.int k x)).run P w = .ok (.int k z) w
  | [], x, z, h => by simp [evFold] at h; subst h; rfl
  | v :: r, x, z, h => by
    unfold evFold at h
    split at h
    · rename_i heq; cases heq
    · rename_i heq; obtain ⟨rfl, rfl⟩ := List.cons.inj heq
      split at h
      · rename_i hk; subst hk
        have := run_foldMin r _ _ h
        simp only [List.foldlM_cons, Builtin.min2]
        simpa [gMin] using this
      · simp at h
    · simp at h

theorem evFold_ints {g : Int → Int → Int} : ∀ {r : List Value} {x : Int} {k : IntKind} {z : Int}, evFold g x k r = some z → FlatL r
  | [], _, _, _, _ => trivial
  | v :: r, x, k, z, h => by
    unfold evFold at h
    split at h
    · rename_i heq; cases heq
    · rename_i heq; obtain ⟨rfl, rfl⟩ := List.cons.inj heq
      split at h
      · exact ⟨rfl, evFold_ints h⟩
      · simp at h
    · simp at h

theorem evMaxMax_ok {ts : Array TypeId} {ty : TypeId} {xs xs' : List Value} {v : Value} {C : Prop} (h : evMax gMax xs = some (v, C)) (hx : F2 (V β) xs xs') : RunV P w β (Builtin.max_ ts ty xs'.toArray) v := by
  unfold evMax at h
  split at h
  · rename_i k x r
    cases hf : evFold gMax x k r with
    | none => simp [hf] at h
    | some z =>
      simp only [hf, Option.map_some] at h
      obtain ⟨rfl, -⟩ := some2 h
      cases hx with
      | cons h1 h2 =>
        obtain rfl := V_int.1 h1
        obtain rfl := (evFold_ints hf).eq h2
        exact ⟨_, by simpa [Builtin.max_] using run_foldMax (P := P) (w := w) _ x z hf, rfl⟩
  · simp at h
theorem evMaxMin_ok {ts : Array TypeId} {ty : TypeId} {xs xs' : List Value} {v : Value} {C : Prop} (h : evMax gMin xs = some (v, C)) (hx : F2 (V β) xs xs') : RunV P w β (Builtin.min_ ts ty xs'.toArray) v := by
  unfold evMax at h
  split at h
  · rename_i k x r
    cases hf : evFold gMin x k r with
    | none => simp [hf] at h
    | some z =>
      simp only [hf, Option.map_some] at h
      obtain ⟨rfl, -⟩ := some2 h
      cases hx with
      | cons h1 h2 =>
        obtain rfl := V_int.1 h1
        obtain rfl := (evFold_ints hf).eq h2
        exact ⟨_, by simpa [Builtin.min_] using run_foldMin (P := P) (w := w) _ x z hf, rfl⟩
  · simp at h

/-! #### A part of a slice; a whole array as a slice -/
def evSlice (Θ : Types) (H : Heap) (t : TypeId) (lo hi : Option Value) : Value → Option (Value × Prop)
  | .string s => match Θ.tv t with | some .str => evSliceS s lo hi | _ => none
  | .slice (some p) n _ =>
    match Θ.tv t with
    | some (.slice e) => match Θ.siz e, bnd lo 0, bnd hi n with
      | some 1, some l, some h => some (.slice (some ⟨p.block, p.off + l.toNat, none⟩) (h - l).toNat 0, 0 ≤ l ∧ l ≤ h ∧ h ≤ n)
      | _, _, _ => none
    | _ => none
  | .slice none _ _ =>
    match Θ.tv t with
    | some (.slice e) => match Θ.siz e, bnd lo 0, bnd hi 0 with
      | some (_ + 1), some l, some h => some (.slice none 0 0, l = 0 ∧ h = 0)
      | _, _, _ => none
    | _ => none
  | .pointer (some p) =>
    match Θ.tv t, lo, hi with
    | some (.arr n e), none, none => match Θ.siz e, key? H p.block with
      | some 1, some B => some (.slice (some ⟨p.block, p.off, none⟩) n 0, 0 < n ∧ p.off + n ≤ B.row.len)
      | _, _ => none
    | _, _, _ => none
  | _ => none

theorem evSlice_ok {Θ : Types} (hΘ : Θ.Ok P) {H : Heap} (hR : RelB β H w) {t : TypeId} {lo hi : Option Value} {x v x' : Value} {C : Prop} (h : evSlice Θ H t lo hi x = some (v, C)) (hC : C) (hx : V β x x') :
    RunV P w β (Instr.sliceAt t x' lo hi none) v := by
  unfold evSlice at h
  split at h
  · rename_i s
    obtain rfl := V_string.1 hx
    split at h
    · rename_i htv
      obtain ⟨ti, hti, e1⟩ := look_tv htv
      exact evSliceS_ok h hC ((hΘ.look hti).str e1)
    · simp at h
  · rename_i p n c
    split at h
    · rename_i e htv
      split at h
      · rename_i l hh hsz hl hhh
        obtain ⟨rfl, rfl⟩ := some2 h
        obtain ⟨ti, hti, e1⟩ := look_tv htv
        obtain ⟨ei, hei, e2⟩ := look_siz hsz
        have hu := (hΘ.look hti).slice e1
        have hz := (hΘ.look hei).sizeOf w
        rw [e2] at hz
        obtain ⟨c1, c2, c3⟩ := hC
        obtain ⟨hs, hv⟩ := V_slice.1 hx
        rcases hv with ⟨h0, rfl⟩ | ⟨A, hA, A', c', rfl, hc, ha, hN⟩
        · subst h0
          have hb := run_bounds (P := P) (w := w) (isS := true) (cap := 0) (lo := lo) (hi := hi) hl hhh c1 c2 c3 (Nat.le_refl _)
          have l0 : l = 0 := by omega
          have h0' : hh = 0 := by omega
          subst l0; subst h0'
          refine ⟨.slice none 0 0, ?_, V_slice.2 ⟨rfl, .inl ⟨by simp, rfl⟩⟩⟩
          simp [Instr.sliceAt, Instr.slice, run_underlying hu, hb, hz]
        · have hsp := hR.spot _ _ hA
          have hb := run_bounds (P := P) (w := w) (isS := true) (cap := c') (lo := lo) (hi := hi) hl hhh c1 c2 c3 hc
          refine ⟨.slice (some (if c' = l.toNat then A' else A'.add l.toNat)) (hh.toNat - l.toNat) (c' - l.toNat), ?_, V_slice.2 ⟨rfl, .inr ⟨A, hA, (if c' = l.toNat then A' else A'.add l.toNat), c' - l.toNat, ?_, ?_, ?_, ?_⟩⟩⟩
          · simp [Instr.sliceAt, Instr.slice, run_underlying hu, hb, hz]
            split <;> simp
          · rw [show (hh - l).toNat = hh.toNat - l.toNat by omega]
          · omega
          · intro hcase
            by_cases hcl : c' = l.toNat
            · rw [if_pos hcl]
              have hn0 : (hh - l).toNat = 0 := by omega
              rcases hcase with hcase | hcase
              · omega
              · simp only at hcase
                have p0 : p.off = 0 := by omega
                have l0 : l.toNat = 0 := by omega
                have := ha (.inr p0)
                simp only [l0, Nat.add_zero]
                rw [this]
            · rw [if_neg hcl]
              have : 0 < n ∨ p.off = 0 := by
                rcases hcase with hcase | hcase
                · left; omega
                · right; simp only at hcase; omega
              rw [ha this, add_add hsp]
          · intro N hcap
            have := hN N hcap
            simp only
            omega
      · simp at h
    · simp at h
  · rename_i n c
    split at h
    · rename_i e htv
      split at h
      · rename_i sz l hh hsz hl hhh
        obtain ⟨rfl, rfl⟩ := some2 h
        obtain ⟨ti, hti, e1⟩ := look_tv htv
        obtain ⟨ei, hei, e2⟩ := look_siz hsz
        have hu := (hΘ.look hti).slice e1
        have hz := (hΘ.look hei).sizeOf w
        rw [e2] at hz
        obtain ⟨rfl, rfl⟩ := hC
        obtain ⟨rfl, rfl, rfl⟩ := V_nilslice.1 hx
        have hb := run_bounds (P := P) (w := w) (isS := true) (len := 0) (cap := 0) (lo := lo) (hi := hi) hl hhh (Int.le_refl _) (Int.le_refl _) (by simp) (Nat.le_refl _)
        refine ⟨.slice none 0 0, ?_, V_nilslice.2 ⟨rfl, rfl, rfl⟩⟩
        simp [Instr.sliceAt, Instr.slice, run_underlying hu, hb, hz]
      · simp at h
    · simp at h
  · rename_i p
    split at h
    · rename_i n e htv
      split at h
      · rename_i B hsz hB
        obtain ⟨rfl, rfl⟩ := some2 h
        obtain ⟨ti, hti, e1⟩ := look_tv htv
        obtain ⟨ei, hei, e2⟩ := look_siz hsz
        have hu := (hΘ.look hti).arr e1
        have hz := (hΘ.look hei).sizeOf w
        rw [e2] at hz
        obtain ⟨A, hA, hs, rfl⟩ := V_ptr.1 hx
        have hb := run_bounds (P := P) (w := w) (isS := false) (len := n) (cap := n) (lo := none) (hi := none) (l := 0) (h := n) rfl rfl (by omega) (by omega) (by omega) (Nat.le_refl _)
        have hn : n ≠ 0 := by omega
        have hblk := hR.blk _ _ _ (key?_ok hB) hA
        refine ⟨.slice (some (A.addr.add p.off)) n n, ?_, V_slice.2 ⟨rfl, .inr ⟨A, hA, _, _, rfl, Nat.le_refl _, fun _ => rfl, fun N hN => ?_⟩⟩⟩
        · simp [Instr.sliceAt, Instr.sureAddr, run_underlying hu, hb, hz, hn, Addr.add]
        · simp only
          by_cases hw : B.wr = true
          · have h2 := hblk.2
            rw [if_pos hw] at h2
            obtain ⟨N', h3, _, _, _, _, _, _, h4, _⟩ := h2
            rw [hN] at h3; cases h3
            rw [Row.len_eq] at h4
            omega
          · have h2 := hblk.2
            rw [if_neg hw] at h2
            rw [h2.1] at hN; cases hN
      · simp at h
    · simp at h
  · simp at h
end

end Go.Proofs.Ytgkplkmjnpofkaa.Abs
namespace Go.Proofs.Ytgkplkmjnpofkaa.Abs
open Go Go.RowKit

section
variable {P : Program} {w : World} {β : Loc}

theorem alloc_ext (w : World) (o : Obj) : WExt w (w.alloc o) := (Below.refl _ _).alloc (Nat.le_refl _) o
theorem alloc_at (w : World) (o : Obj) : (w.alloc o).heap[w.heap.size]? = some o := heap_alloc_new w o
theorem alloc_size (w : World) (o : Obj) : (w.alloc o).heap.size = w.heap.size + 1 := by
  show (w.heap.push o).size = _
  simp

/-- A fresh block's cells. -/
theorem own_new {β' : Loc} {w' : World} {g N : Nat} {cs' : Array Value} {ty : TypeId} {cells : List Value} (hg : w'.heap[g]? = some (.cells cs' ty (0, 0)))
    (hN : cs'.size = N) (hl : cells.length ≤ cs'.size) (hc : ∀ (j : Nat) v, cells[j]? = some v → ∃ v', cs'[j]? = some v' ∧ V1 β' v v') : Own β' w' ⟨g, 0, none⟩ N ty cells :=
  ⟨rfl, cs', (0, 0), hg, hN, fun j _ h => by omega, hN ▸ hl, hc⟩

/-! #### New memory -/
def evAlloc (Θ : Types) (H : Heap) (t : TypeId) : Option (Value × Blk) :=
  (Θ.look t).map fun ti => (.pointer (some ⟨H.length, 0, none⟩), ⟨true, t, ti.zrow⟩)

theorem flat_zero {z : Value} {l : List Value} (h : z.cells.toList = l) : True := trivial

/-- The cells of a zero value are without addresses. -/
def zflat (ti : TI) : Bool := ti.zrow.cells.all Flat1

theorem newVar_run (t : TypeId) (v : Value) : (newVar t v).run P w = .ok ⟨w.heap.size, 0, none⟩ (w.alloc (.cells v.cells t)) := by
  simp [newVar, newRow]

theorem forall2_cells {β : Loc} {l l' : List Value} (h : F2 (V1 β) l l') : l.length ≤ l'.toArray.size ∧ ∀ (j : Nat) v, l[j]? = some v → ∃ v', l'.toArray[j]? = some v' ∧ V1 β v v' := by
  have := forall2_get h
  exact ⟨by simp [this.1], fun j v hv => by simpa using this.2 j v hv⟩

theorem evAlloc_ok {Θ : Types} (hΘ : Θ.Ok P) {H : Heap} {o : Oper} {a : Act} {t : TypeId} {v : Value} {B : Blk} (ho : o.op = .alloc t) (h : evAlloc Θ H t = some (v, B)) (hz : ∀ ti, Θ.look t = some ti → zflat ti = true) (hkey : β H.length = none) :
    Soft P o a β H w (some B) v := by
  unfold evAlloc at h
  cases hl : Θ.look t with
  | none => simp [hl] at h
  | some ti =>
    simp only [hl, Option.map_some, Option.some.injEq, Prod.mk.injEq] at h
    obtain ⟨rfl, rfl⟩ := h
    obtain ⟨i, z, hi, _, _, hzz, hcells⟩ := (hΘ.look hl).info
    have hf : ∀ u ∈ ti.zrow.cells, Flat1 u = true := by simpa [zflat] using hz ti hl
    have hrun : (execOp a.eval o).run P w = .ok (.value (.pointer (some ⟨w.heap.size, 0, none⟩))) (w.alloc (.cells z.cells t)) := by
      unfold execOp
      simp [ho, Instr.alloc, zeroValue, typeInfo, hi, hzz, newVar_run]
    refine soft_new hrun (alloc_ext _ _) (Nat.le_refl _) (by rw [alloc_size]; omega) hkey rfl (fun β' _ hk => V_ptr.2 ⟨_, hk, rfl, rfl⟩) (fun β' _ hk => own_new (alloc_at _ _) rfl ?_ ?_)
    · simp [← hcells]
    · intro j u hu
      refine ⟨u, ?_, (V1_flat (hf u (List.mem_of_getElem? hu))).2 rfl⟩
      rw [← hcells] at hu
      simpa using hu

/-- A value is boxed. -/
def evBox (H : Heap) (t : TypeId) (R : Option Row) (x : Value) : Option (Value × Blk × Prop) :=
  match x, R with
  | .agg cs, some R => some (.pointer (some ⟨H.length, 0, none⟩), ⟨true, t, R⟩, R.cells = cs.toList)
  | .agg _, none => none
  | .tuple _, _ => none
  | x, _ => some (.pointer (some ⟨H.length, 0, none⟩), ⟨true, t, .vals [x]⟩, True)

theorem V_one {v v' : Value} (h : V β v v') (h1 : ∀ cs, v ≠ .agg cs) (h2 : ∀ vs, v ≠ .tuple vs) : V1 β v v' := by
  unfold V at h
  split at h
  · exact absurd rfl (h2 _)
  · unfold V2 at h
    split at h
    · exact absurd rfl (h1 _)
    · exact h

theorem V1_notagg {v v' : Value} (h : V1 β v v') : v'.cells = #[v'] := by
  unfold V1 at h
  split at h
  · obtain ⟨A, _, _, rfl⟩ := h; rfl
  · obtain ⟨_, ⟨_, rfl⟩ | ⟨A, _, A', c', rfl, _⟩⟩ := h <;> rfl
  · obtain ⟨_, _, rfl⟩ := h; rfl
  all_goals first
    | exact h.elim
    | (subst h; unfold Value.cells; split
       · simp_all
       · rfl)

theorem evBox_ok {H : Heap} {o : Oper} {a : Act} {t : TypeId} {ox : Operand} {R : Option Row} {x v : Value} {B : Blk} {C : Prop} (ho : o.op = .box t ox) (h : evBox H t R x = some (v, B, C)) (hC : C) (hx : V β x (a.eval ox)) (hkey : β H.length = none) :
    Soft P o a β H w (some B) v := by
  have hrun : (execOp a.eval o).run P w = .ok (.value (.pointer (some ⟨w.heap.size, 0, none⟩))) (w.alloc (.cells (a.eval ox).cells t)) := by
    unfold execOp
    simp [ho, Instr.box, newVar_run]
  unfold evBox at h
  split at h
  · rename_i cs R
    simp only [Option.some.injEq, Prod.mk.injEq] at h
    obtain ⟨rfl, rfl, rfl⟩ := h
    obtain ⟨cs', hx', hf⟩ := V_agg.1 hx
    rw [hx'] at hrun
    refine soft_new hrun (alloc_ext _ _) (Nat.le_refl _) (by rw [alloc_size]; omega) hkey rfl (fun β' _ hk => V_ptr.2 ⟨_, hk, rfl, rfl⟩) (fun β' hle hk => own_new (alloc_at _ _) rfl ?_ ?_)
    · have := (forall2_get hf).1; simp [hC, Value.cells] at *; omega
    · intro j u hu
      rw [hC] at hu
      obtain ⟨u', h1, h2⟩ := (forall2_get hf).2 j u hu
      exact ⟨u', by simpa [Value.cells] using h1, V1.mono hle h2⟩
  · simp at h
  · simp at h
  · rename_i h1 h2 h3 
    simp only [Option.some.injEq, Prod.mk.injEq] at h
    obtain ⟨rfl, rfl, rfl⟩ := h
    have hn1 : ∀ cs, x ≠ .agg cs := by
      intro cs e
      cases R with
      | none => first | exact h3 cs e rfl | exact h2 cs e rfl
      | some R => first | exact h1 cs R e rfl | exact h2 cs R e rfl
    have hn2 : ∀ vs, x ≠ .tuple vs := fun vs e => by first | exact h1 vs e | exact h2 vs e | exact h3 vs e
    have hv1 := V_one hx hn1 hn2
    have hcl := V1_notagg hv1
    rw [hcl] at hrun
    refine soft_new hrun (alloc_ext _ _) (Nat.le_refl _) (by rw [alloc_size]; omega) hkey rfl (fun β' _ hk => V_ptr.2 ⟨_, hk, rfl, rfl⟩) (fun β' hle hk => own_new (alloc_at _ _) rfl ?_ ?_)
    · simp [Row.cells]
    · intro j u hu
      simp only [Row.cells] at hu
      cases j with
      | zero => simp at hu; subst hu; exact ⟨_, rfl, V1.mono hle hv1⟩
      | succ j => simp at hu

/-! #### make -/
def rep (R : Row) (n : Nat) : Option Row :=
  match R with
  | .ints k [z] => some (.ints k (List.replicate n z))
  | .strs [z] => some (.strs (List.replicate n z))
  | .vals [z] => if Flat1 z then some (.vals (List.replicate n z)) else none
  | _ => none

theorem rep_cells {R R' : Row} {n : Nat} (h : rep R n = some R') : ∃ z, R.cells = [z] ∧ Flat1 z = true ∧ R'.cells = List.replicate n z := by
  unfold rep at h
  split at h
  · simp at h; subst h; exact ⟨_, rfl, rfl, by simp [Row.cells]⟩
  · simp at h; subst h; exact ⟨_, rfl, rfl, by simp [Row.cells]⟩
  · split at h
    · rename_i hz; simp at h; subst h; exact ⟨_, rfl, hz, rfl⟩
    · simp at h
  · simp at h

def evMake (Θ : Types) (H : Heap) (t : TypeId) : Value → Value → Option (Value × Blk × Prop)
  | .int _ l, .int _ c =>
    match Θ.tv t with
    | some (.slice e) => match Θ.look e with
      | some ei => if ei.size != 1 then none else (rep ei.zrow l.toNat).map fun R => (.slice (some ⟨H.length, 0, none⟩) l.toNat 0, ⟨true, e, R⟩, 0 ≤ l ∧ l = c ∧ (ei.bytes : Int) * l ≤ 140737488355328 ∧ l ≤ 9223372036854775807)
      | none => none
    | _ => none
  | _, _ => none

theorem madeCells_one (z : Value) (n : Nat) : ∀ j : Nat, j < n → (madeCells #[z] n)[j]? = some z := by
  intro j hj
  simp [madeCells, hj, Nat.mod_one]

theorem evMake_ok {Θ : Types} (hΘ : Θ.Ok P) {H : Heap} {o : Oper} {a : Act} {t : TypeId} {ol oc : Operand} {l c v : Value} {B : Blk} {C : Prop} (ho : o.op = .makeSlice t ol oc) (h : evMake Θ H t l c = some (v, B, C)) (hC : C)
    (hl : V β l (a.eval ol)) (hc : V β c (a.eval oc)) (hkey : β H.length = none) : Soft P o a β H w (some B) v := by
  unfold evMake at h
  split at h
  · rename_i k1 l k2 c
    split at h
    · rename_i e htv
      split at h
      · rename_i ei hei
        split at h
        · simp at h
        · rename_i hs1'
          have hs1 : ei.size = 1 := by simpa using hs1'
          cases hr : rep ei.zrow l.toNat with
          | none => simp [hr] at h
          | some R =>
            simp only [hr, Option.map_some, Option.some.injEq, Prod.mk.injEq] at h
            obtain ⟨rfl, rfl, rfl⟩ := h
            obtain ⟨c1, rfl, c3, c4⟩ := hC
            obtain ⟨z, hz1, hz2, hz3⟩ := rep_cells hr
            obtain ⟨ti, hti, e1⟩ := look_tv htv
            have hu := (hΘ.look hti).slice e1
            obtain ⟨i, zv, hi, hs, hb, hzz, hcells⟩ := (hΘ.look hei).info
            have hzc : zv.cells = #[z] := by
              rw [hz1] at hcells
              exact Array.toList_inj.1 (by simpa using hcells)
            have e1 := V_int.1 hl
            have e2 := V_int.1 hc
            rw [hs1] at hs
            have hrun : (execOp a.eval o).run P w = .ok (.value (.slice (some ⟨w.heap.size, 0, none⟩) l.toNat l.toNat)) (w.alloc (.cells (madeCells #[z] (l.toNat * i.size)) e)) := by
              have := run_make (P := P) w t e i zv hu hi hzz k1 k2 l l c1 (Int.le_refl _) (by rw [hb]; omega) c4
              rw [hzc] at this
              unfold execOp
              simp [ho, e1, e2, this]
            rw [hs, Nat.mul_one] at hrun
            refine soft_new (cap := l.toNat) hrun (alloc_ext _ _) (Nat.le_refl _) (by rw [alloc_size]; omega) hkey rfl (fun β' _ hk => V_slice.2 ⟨rfl, .inr ⟨_, hk, _, _, rfl, Nat.le_refl _, fun _ => rfl, fun N hN => by simp at hN; subst hN; simp⟩⟩) (fun β' hle hk => own_new (alloc_at _ _) (size_madeCells _ _) ?_ ?_)
            · simp [hz3, madeCells]
            · intro j u hu
              rw [hz3] at hu
              have hj : j < l.toNat := by
                rcases Nat.lt_or_ge j l.toNat with h | h
                · exact h
                · rw [List.getElem?_eq_none (by simpa using h)] at hu; cases hu
              rw [List.getElem?_replicate, if_pos hj] at hu
              cases hu
              exact ⟨z, madeCells_one z _ j hj, (V1_flat hz2).2 rfl⟩
      · simp at h
    · simp at h
  · simp at h

end
end Go.Proofs.Ytgkplkmjnpofkaa.Abs
namespace Go.Proofs.Ytgkplkmjnpofkaa.Abs
open Go Go.RowKit

section
variable {P : Program} {w : World} {β : Loc}

def isOne : Value → Bool
  | .agg _ | .tuple _ => false
  | _ => true
theorem isOne_V1 {v v' : Value} (h : isOne v = true) (hv : V β v v') : V1 β v v' :=
  V_one hv (fun cs e => by subst e; simp [isOne] at h) (fun cs e => by subst e; simp [isOne] at h)

/-! #### A literal of a slice -/
def evBuildSlice (Θ : Types) (H : Heap) (t : TypeId) (len : Nat) (idx : List Nat) (vs : List Value) : Option (Value × Blk) :=
  match Θ.tv t with
  | some (.slice e) => match Θ.look e with
    | some ei => if ei.size == 1 && idx == List.range len && vs.length == len && decide (len ≤ 16777216) && vs.all isOne then some (.slice (some ⟨H.length, 0, none⟩) len 0, ⟨true, e, typed ei.tv vs⟩) else none
    | none => none
  | _ => none

theorem fill_all : ∀ (l : List (Nat × Value)) (k : Nat) (cells : Array Value), l.map (·.1) = List.range' k l.length → (∀ x ∈ l, x.2.cells = #[x.2]) → k + l.length ≤ cells.size →
    ∃ out, Instr.fill (fun i => some (i * 1, 1)) cells l = some out ∧ out.size = cells.size ∧ (∀ j : Nat, j < k → out[j]? = cells[j]?) ∧ ∀ (j : Nat) x, l[j]? = some x → out[k + j]? = some x.2
  | [], k, cells, _, _, _ => ⟨cells, rfl, rfl, fun _ _ => rfl, fun j x h => by simp at h⟩
  | (i, v) :: r, k, cells, h1, h2, h3 => by
    simp only [List.map_cons, List.length_cons, List.range'_succ, List.cons.injEq] at h1
    obtain ⟨rfl, h1⟩ := h1
    have hv : v.cells = #[v] := h2 (i, v) (by simp)
    simp only [List.length_cons] at h3
    have hlt : i < cells.size := by omega
    obtain ⟨out, e1, e2, e3, e4⟩ := fill_all r (i + 1) (cells.setIfInBounds i v) h1 (fun x hx => h2 x (by simp [hx])) (by simp; omega)
    refine ⟨out, ?_, by simpa using e2, fun j hj => ?_, fun j x hx => ?_⟩
    · simp only [Instr.fill, hv]
      simp [show ¬ cells.size < i + 1 by omega]
      simpa using e1
    · rw [e3 j (by omega), Array.getElem?_setIfInBounds_ne (by omega)]
    · cases j with
      | zero =>
        simp at hx; subst hx
        rw [Nat.add_zero, e3 i (by omega), Array.getElem?_setIfInBounds_self_of_lt hlt]
      | succ j => have := e4 j x (by simpa using hx); rwa [show i + 1 + j = i + (j + 1) by omega] at this

theorem evBuildSlice_ok {Θ : Types} (hΘ : Θ.Ok P) {H : Heap} {o : Oper} {a : Act} {t : TypeId} {len : Nat} {parts : Array (Nat × Operand)} {vs : List Value} {v : Value} {B : Blk} (ho : o.op = .buildSlice t len parts)
    (h : evBuildSlice Θ H t len (parts.toList.map (·.1)) vs = some (v, B)) (hv : F2 (V β) vs (parts.toList.map fun x => a.eval x.2)) (hkey : β H.length = none) : Soft P o a β H w (some B) v := by
  unfold evBuildSlice at h
  split at h
  · rename_i e htv
    split at h
    · rename_i ei hei
      split at h
      · rename_i hc
        simp only [Bool.and_eq_true, beq_iff_eq, decide_eq_true_eq, List.all_eq_true] at hc
        obtain ⟨⟨⟨⟨hs1, hidx⟩, hlen⟩, hbig⟩, hone⟩ := hc
        simp only [Option.some.injEq, Prod.mk.injEq] at h
        obtain ⟨rfl, rfl⟩ := h
        obtain ⟨ti, hti, e1⟩ := look_tv htv
        have hu := (hΘ.look hti).slice e1
        obtain ⟨i, zv, hi, hs, hb, hzz, hcells⟩ := (hΘ.look hei).info
        rw [hs1] at hs
        have hg := forall2_get hv
        let l : List (Nat × Value) := parts.toList.map fun x => (x.1, a.eval x.2)
        have hll : l.length = len := by simp [l]; rw [← hlen, hg.1]; simp
        have hl1 : l.map (·.1) = List.range' 0 l.length := by
          rw [hll, ← List.range_eq_range', ← hidx]; simp [l, Function.comp_def]
        have hl2 : l.map (·.2) = parts.toList.map fun x => a.eval x.2 := by simp [l, Function.comp_def]
        have hone' : ∀ x ∈ l, x.2.cells = #[x.2] := by
          intro x hx
          obtain ⟨j, hj, rfl⟩ := List.mem_iff_getElem.1 hx
          have hjv : j < vs.length := by omega
          obtain ⟨u, hu1, hu2⟩ := hg.2 j _ (List.getElem?_eq_getElem hjv)
          rw [← hl2, List.getElem?_map, List.getElem?_eq_getElem hj] at hu1
          simp at hu1
          rw [hu1]
          exact V1_notagg (isOne_V1 (hone _ (List.getElem_mem hjv)) hu2)
        let zs : Array Value := (Array.range (len * 1)).map fun j => zv.cells[j % zv.cells.size]!
        obtain ⟨out, f1, f2, f3, f4⟩ := fill_all l 0 zs hl1 hone' (by simp [zs, hll])
        have hrun : (execOp a.eval o).run P w = .ok (.value (.slice (some ⟨w.heap.size, 0, none⟩) len len)) (w.alloc (.cells out e)) := by
          unfold execOp
          by_cases h0 : len = 0
          · subst h0
            have hl0 : l = [] := List.eq_nil_of_length_eq_zero hll
            have hp0 : parts = #[] := by
              have : parts.toList = [] := by simpa [l] using hl0
              exact Array.toList_inj.1 this
            simp [hl0, Instr.fill, zs] at f1
            subst f1
            simp [ho, Instr.buildSlice, run_underlying hu, sizeOf, typeInfo, hi, hs, hp0, Instr.fill, newRow, Array.range_zero']
          · have hfl : (parts.map fun x => (x.1, a.eval x.2)).toList = l := by simp [l]
            have f1' : Instr.fill (fun i => some (i * 1, 1)) zs (List.map (fun x => (x.fst, a.eval x.snd)) parts.toList) = some out := f1
            simp only [Nat.mul_one] at f1'
            simp [ho, Instr.buildSlice, run_underlying hu, sizeOf, typeInfo, zeroValue, hi, hzz, hs, h0, show ¬ 16777216 < len by omega, newRow]
            simp only [zs, Nat.mul_one] at f1'
            simp [f1']
        refine soft_new (cap := len) hrun (alloc_ext _ _) (Nat.le_refl _) (by rw [alloc_size]; omega) hkey rfl (fun β' _ hk => V_slice.2 ⟨rfl, .inr ⟨_, hk, _, _, rfl, Nat.le_refl _, fun _ => rfl, fun N hN => by simp at hN; subst hN; simp⟩⟩) (fun β' hle hk => own_new (alloc_at _ _) (by simp [f2, zs]) ?_ ?_)
        · simp [typed_cells, f2, zs, hlen]
        · intro j u hju
          rw [typed_cells] at hju
          obtain ⟨u', hu1, hu2⟩ := hg.2 j u hju
          rw [← hl2, List.getElem?_map] at hu1
          cases hlj : l[j]? with
          | none => simp [hlj] at hu1
          | some x =>
            simp [hlj] at hu1
            have := f4 j x hlj
            rw [Nat.zero_add] at this
            exact ⟨u', by rw [← hu1]; exact this, V1.mono hle (isOne_V1 (hone u (List.mem_of_getElem? hju)) hu2)⟩
      · simp at h
    · simp at h
  · simp at h

/-! #### Conversions -/
inductive COut where
  | val (v : Value)
  | new (v : Value) (B : Blk)

def evConv (Θ : Types) (H : Heap) (src dst : TypeId) : Value → Option (COut × Prop)
  | .int _ n =>
    match Θ.tv src, Θ.tv dst with
    | some (.int k), some (.int k') => if incl k k' then some (.val (.int k' n), lo k' ≤ n ∧ n ≤ hi k') else some (.val (.int k' (wrapE k' n)), True)
    | _, _ => none
  | .string s =>
    match Θ.tv src, Θ.tv dst with
    | some .str, some .str => some (.val (.string s), True)
    | some .str, some (.slice e) => match Θ.tv e with
      | some (.int .u8) => some (.new (.slice (some ⟨H.length, 0, none⟩) s.size 0) ⟨true, e, .ints .u8 (bytesOf s)⟩, True)
      | _ => none
    | _, _ => none
  | .slice (some p) n _ =>
    match Θ.tv src, Θ.tv dst with
    | some (.slice e), some .str => match Θ.tv e, key? H p.block with
      | some (.int .u8), some ⟨_, _, .ints .u8 xs⟩ => some (.val (.string (ofInts ((xs.drop p.off).take n))), p.off + n ≤ xs.length)
      | _, _ => none
    | _, _ => none
  | .slice none _ _ =>
    match Θ.tv src, Θ.tv dst with
    | some (.slice e), some .str => match Θ.tv e with
      | some (.int .u8) => some (.val (.string ByteArray.empty), True)
      | _ => none
    | _, _ => none
  | _ => none

theorem push_ofInts (ns : List Int) : (⟨ByteArray.empty.data ++ (ns.map fun n => UInt8.ofNat n.toNat).toArray⟩ : ByteArray) = ofInts ns := by
  unfold ofInts
  congr 1
  simp [ByteArray.empty, ByteArray.emptyWithCapacity]
  rfl

theorem F2_ints {k : IntKind} {xs : List Int} {l' : List Value} (h : F2 (V1 β) (xs.map (.int k)) l') : l' = xs.map (.int k) :=
  forall2_flat (by simp [Flat1]) h

theorem evConv_ok {Θ : Types} (hΘ : Θ.Ok P) {H : Heap} (hR : RelB β H w) {o : Oper} {a : Act} {src dst : TypeId} {ox : Operand} {x : Value} {r : COut} {C : Prop} (ho : o.op = .convert src dst ox)
    (h : evConv Θ H src dst x = some (r, C)) (hC : C) (hx : V β x (a.eval ox)) (hkey : ∀ v B, r = .new v B → β H.length = none) :
    match r with
    | .val v => Soft P o a β H w none v
    | .new v B => Soft P o a β H w (some B) v := by
  have hex : execOp a.eval o = (do pure (.value (← convert src dst (a.eval ox)))) := by unfold execOp; simp [ho]
  cases x with
  | int k n =>
    simp only [evConv] at h
    split at h
    · rename_i k1 k2 h1 h2
      obtain ⟨ti, hti, e1⟩ := look_tv h1
      obtain ⟨tj, htj, e2⟩ := look_tv h2
      have u1 := (hΘ.look hti).int e1
      have u2 := (hΘ.look htj).int e2
      have ex := V_int.1 hx
      have hrun : (execOp a.eval o).run P w = .ok (.value (.int k2 (k2.wrap n))) w := by
        rw [hex, ex]; simp [convert, run_underlying u1, run_underlying u2, Conv.intToInt]
      split at h
      · obtain ⟨rfl, rfl⟩ := some2 h
        rw [wrap_in _ _ hC.1 hC.2] at hrun
        exact soft_value hrun rfl
      · obtain ⟨rfl, rfl⟩ := some2 h
        rw [← wrapE_eq] at hrun
        exact soft_value hrun rfl
    · simp at h
  | string s =>
    simp only [evConv] at h
    have ex := V_string.1 hx
    split at h
    · rename_i h1 h2
      obtain ⟨rfl, rfl⟩ := some2 h
      obtain ⟨ti, hti, e1⟩ := look_tv h1
      obtain ⟨tj, htj, e2⟩ := look_tv h2
      have u1 := (hΘ.look hti).str e1
      have u2 := (hΘ.look htj).str e2
      exact soft_value (v' := .string s) (by rw [hex, ex]; simp [convert, run_underlying u1, run_underlying u2]) rfl
    · rename_i e h1 h2
      split at h
      · rename_i h3
        obtain ⟨rfl, rfl⟩ := some2 h
        obtain ⟨ti, hti, e1⟩ := look_tv h1
        obtain ⟨tj, htj, e2⟩ := look_tv h2
        obtain ⟨tk, htk, e3⟩ := look_tv h3
        have u1 := (hΘ.look hti).str e1
        have u2 := (hΘ.look htj).slice e2
        have u3 := (hΘ.look htk).int e3
        have hr := run_bytes_of_string (P := P) w src dst e s u1 u2 u3
        have hge : s.size ≤ grownCap w s.size 0 e := grownCap_ge w s.size 0 e
        have hrun : (execOp a.eval o).run P w = .ok (.value (.slice (some ⟨w.heap.size, 0, none⟩) s.size (grownCap w s.size 0 e)))
            (w.drew.alloc (.cells (bytesRow s (grownCap w s.size 0 e)) e ((bytesRow s (grownCap w s.size 0 e)).size, (bytesRow s (grownCap w s.size 0 e)).size + 1))) := by
          rw [hex, ex]; simp [hr]
        have hbs : (bytesRow s (grownCap w s.size 0 e)).size = grownCap w s.size 0 e := by
          simp [bytesRow]; have : s.data.size = s.size := rfl
          omega
        refine soft_new (cap := grownCap w s.size 0 e) hrun ((Below.refl _ _).drew.alloc (Nat.le_refl _) _) (Nat.le_refl _) (by rw [alloc_size]; exact Nat.lt_succ_self _) (hkey _ _ rfl) rfl (fun β' _ hk => V_slice.2 ⟨rfl, .inr ⟨_, hk, _, _, rfl, hge, fun _ => rfl, fun N hN => by simp at hN; subst hN; simp⟩⟩) (fun β' hle hk => ?_)
        refine ⟨rfl, _, _, alloc_at w.drew _, hbs, fun j hj h => by simp at h; omega, ?_, fun j u hu => ⟨u, ?_, ?_⟩⟩
        · simp only [Row.cells, List.length_map, bytesOf, Array.length_toList]
          have : s.data.size = s.size := rfl
          omega
        · simp only [Row.cells, bytesOf, List.map_map] at hu
          rw [List.getElem?_map] at hu
          have hj : j < s.data.size := by
            rcases Nat.lt_or_ge j s.data.size with h | h
            · exact h
            · rw [List.getElem?_eq_none (by simpa using h)] at hu; simp at hu
          rw [List.getElem?_eq_getElem (by simpa using hj)] at hu
          simp at hu
          subst hu
          unfold bytesRow
          rw [Array.getElem?_append_left (by simpa using hj), Array.getElem?_map, Array.getElem?_eq_getElem hj]
          rfl
        · simp only [Row.cells, bytesOf, List.map_map] at hu
          rw [List.getElem?_map] at hu
          cases hs : s.data.toList[j]? with
          | none => simp [hs] at hu
          | some b => simp [hs] at hu; subst hu; exact (V1_flat rfl).2 rfl
      · simp at h
    · simp at h
  | slice pa n c =>
   cases pa with
   | some p =>
    simp only [evConv] at h
    split at h
    · rename_i e h1 h2
      split at h
      · rename_i wr ty xs h3 hB
        obtain ⟨rfl, rfl⟩ := some2 h
        obtain ⟨ti, hti, e1⟩ := look_tv h1
        obtain ⟨tj, htj, e2⟩ := look_tv h2
        obtain ⟨tk, htk, e3⟩ := look_tv h3
        have u1 := (hΘ.look hti).slice e1
        have u2 := (hΘ.look htj).str e2
        have u3 := (hΘ.look htk).int e3
        obtain ⟨hs, hv⟩ := V_slice.1 hx
        rcases hv with ⟨h0, ex⟩ | ⟨A, hA, A', c', ex, hc, ha, hN⟩
        · subst h0
          have hr := run_convert_bytes_nil (P := P) w src e u1 u3 0 0 dst u2
          exact soft_value (v' := .string ByteArray.empty) (by rw [hex, ex]; simp [hr]) (by simp [ofInts]; rfl)
        · have hsp := hR.spot _ _ hA
          have hblk := (hR.blk _ _ _ (key?_ok hB) hA).readable
          have hl : ∃ A2, (loadCells A' n).run P w = .ok A2 w ∧ A2 = (((xs.drop p.off).take n).map (Value.int .u8)).toArray := by
            by_cases hn : 0 < n
            · obtain rfl := ha (.inl hn)
              obtain ⟨cs', l1, l2⟩ := loadCells_ok (P := P) hblk hsp p.off n (by simp [Row.cells]; omega)
              refine ⟨cs', l1, ?_⟩
              simp only [Row.cells] at l2
              rw [← List.map_drop, ← List.map_take] at l2
              exact Array.toList_inj.1 (by rw [F2_ints l2])
            · have : n = 0 := by omega
              subst this
              exact ⟨#[], by simp [loadCells, loadCellsFrom], by simp⟩
          obtain ⟨A2, hl, rfl⟩ := hl
          have hr := run_bytesToString (P := P) w A' n c' _ hl
          rw [foldl_push_bytes] at hr
          have hcv := run_convert_bytes_string (P := P) w src dst e (some A') n c' u1 u3 u2
          exact soft_value (v' := .string (ofInts ((xs.drop p.off).take n))) (by rw [hex, ex]; simp only [Sem.run_bind, hcv, hr, Result.andThen_ok, Sem.run_pure]; rw [push_ofInts]) rfl
      · simp at h
    · simp at h
   | none =>
    simp only [evConv] at h
    split at h
    · rename_i e h1 h2
      split at h
      · rename_i h3
        obtain ⟨rfl, rfl⟩ := some2 h
        obtain ⟨ti, hti, e1⟩ := look_tv h1
        obtain ⟨tj, htj, e2⟩ := look_tv h2
        obtain ⟨tk, htk, e3⟩ := look_tv h3
        have u1 := (hΘ.look hti).slice e1
        have u2 := (hΘ.look htj).str e2
        have u3 := (hΘ.look htk).int e3
        obtain ⟨-, -, ex⟩ := V_nilslice.1 hx
        have hr := run_convert_bytes_nil (P := P) w src e u1 u3 0 0 dst u2
        exact soft_value (v' := .string ByteArray.empty) (by rw [hex, ex]; simp [hr]) rfl
      · simp at h
    · simp at h
  | _ => simp [evConv] at h
end

end Go.Proofs.Ytgkplkmjnpofkaa.Abs
namespace Go.Proofs.Ytgkplkmjnpofkaa.Abs
open Go Go.RowKit

section
variable {P : Program} {w : World} {β : Loc}

theorem Rel.nil (w : World) : Rel (fun _ => none) [] w where
  blk := fun κ B a h => by simp at h
  sep := fun κ κ' B B' a a' h => by simp at h
  spot := fun κ a h => by simp at h
  dom := fun _ _ => rfl
  glob := fun κ B g h => by simp at h

theorem enters {f : FuncId} {fn : Func} (hf : P.funcs[f]? = some fn) (hname : (fn.name == "runtime.NumGoroutine") = false) (hb : fn.body.isSome = true) (args : Array Value) (w : World) : (callFunc f args).run P w = .ok (.enter f args) w := by
  have h1 : fn.name ≠ "runtime.NumGoroutine" := by simpa using hname
  obtain ⟨c, hc⟩ := Option.isSome_iff_exists.1 hb
  simp [callFunc, hf, h1, hc]

theorem run_enter {f : FuncId} {fn : Func} (hf : P.funcs[f]? = some fn) (hname : (fn.name == "runtime.NumGoroutine") = false) (hb : fn.body.isSome = true) {o : Oper} {a : Act} {c : Call} (ho : o.op = .call c) (hc : c.callee = .value (.func f)) (w : World) :
    (execOp a.eval o).run P w = .ok (.enter f (c.args.toList.map a.eval).toArray) w := by
  have he := enters hf hname hb (c.args.map a.eval) w
  have e : (c.args.toList.map a.eval).toArray = c.args.map a.eval := Array.toList_inj.1 (by simp)
  rw [e]
  unfold execOp
  simp [ho, resolve, hc, Deferred.ofValue, invoke, Act.eval] at *
  exact he

/-! #### Keys under other names -/
def ren1 (ι : List Nat) (bad : Nat) : Value → Value
  | .pointer (some p) => .pointer (some ⟨ι.getD p.block bad, p.off, p.spot⟩)
  | .slice (some p) n c => .slice (some ⟨ι.getD p.block bad, p.off, p.spot⟩) n c
  | v => v
def ren2 (ι : List Nat) (bad : Nat) : Value → Value
  | .agg cs => .agg (cs.toList.map (ren1 ι bad)).toArray
  | v => ren1 ι bad v
def ren (ι : List Nat) (bad : Nat) : Value → Value
  | .tuple vs => .tuple (vs.toList.map (ren2 ι bad)).toArray
  | v => ren2 ι bad v

section
variable {ι : List Nat} {bad : Nat} {β1 β2 : Loc} {v x : Value}

/-- Where the renamed keys lie. -/
abbrev Fits (ι : List Nat) (bad : Nat) (β1 β2 : Loc) : Prop := ∀ κ A, β1 κ = some A → β2 (ι.getD κ bad) = some A
abbrev Back (ι : List Nat) (bad : Nat) (β1 β2 : Loc) : Prop := ∀ κ A, β2 (ι.getD κ bad) = some A → β1 κ = some A

theorem ren1_down (h : Back ι bad β1 β2) (hv : V1 β2 (ren1 ι bad v) x) : V1 β1 v x := by
  unfold ren1 at hv
  split at hv
  · obtain ⟨A, h1, h2⟩ := hv; exact ⟨A, h _ _ h1, h2⟩
  · obtain ⟨h0, hn | ⟨A, h1, h2⟩⟩ := hv
    · exact ⟨h0, .inl hn⟩
    · exact ⟨h0, .inr ⟨A, h _ _ h1, h2⟩⟩
  · rename_i h1 h2
    unfold V1 at hv ⊢
    split <;> simp_all

theorem ren1_up (h : Fits ι bad β1 β2) (hv : V1 β1 v x) : V1 β2 (ren1 ι bad v) x := by
  unfold ren1
  split
  · obtain ⟨A, h1, h2⟩ := hv; exact ⟨A, h _ _ h1, h2⟩
  · obtain ⟨h0, hn | ⟨A, h1, h2⟩⟩ := hv
    · exact ⟨h0, .inl hn⟩
    · exact ⟨h0, .inr ⟨A, h _ _ h1, h2⟩⟩
  · rename_i h1 h2
    unfold V1 at hv ⊢
    split at hv <;> simp_all

theorem F2_map_down {R S : Value → Value → Prop} {f : Value → Value} (h : ∀ a b, R (f a) b → S a b) : ∀ {l l' : List Value}, F2 R (l.map f) l' → F2 S l l'
  | [], _, h' => by cases h'; exact .nil
  | a :: l, _, h' => by
    cases h' with
    | cons h1 h2 => exact .cons (h _ _ h1) (F2_map_down h h2)
theorem F2_map_up {R S : Value → Value → Prop} {f : Value → Value} (h : ∀ a b, S a b → R (f a) b) {l l' : List Value} (h' : F2 S l l') : F2 R (l.map f) l' := by
  induction h' with
  | nil => exact .nil
  | cons h1 _ ih => exact .cons (h _ _ h1) ih

theorem ren2_down (h : Back ι bad β1 β2) (hv : V2 β2 (ren2 ι bad v) x) : V2 β1 v x := by
  unfold ren2 at hv
  split at hv
  · rename_i cs
    obtain ⟨cs', rfl, hf⟩ := hv
    exact ⟨cs', rfl, F2_map_down (fun _ _ => ren1_down h) (by simpa using hf)⟩
  · rename_i hne
    have h1 : V1 β2 (ren1 ι bad v) x := by
      unfold V2 at hv
      split at hv
      · rename_i cs he
        exfalso
        unfold ren1 at he
        split at he
        · cases he
        · cases he
        · exact hne _ he
      · exact hv
    have := ren1_down h h1
    unfold V2
    split
    · exact absurd rfl (hne _)
    · exact this
theorem ren2_up (h : Fits ι bad β1 β2) (hv : V2 β1 v x) : V2 β2 (ren2 ι bad v) x := by
  unfold ren2
  split
  · rename_i cs
    obtain ⟨cs', rfl, hf⟩ := hv
    exact ⟨cs', rfl, by simpa using F2_map_up (R := V1 β2) (S := V1 β1) (fun _ _ => ren1_up h) hf⟩
  · rename_i hne
    have h1 : V1 β1 v x := by
      unfold V2 at hv
      split at hv
      · exact absurd rfl (hne _)
      · exact hv
    exact V2_of_V1 (ren1_up h h1)

theorem ren_down (h : Back ι bad β1 β2) (hv : V β2 (ren ι bad v) x) : V β1 v x := by
  unfold ren at hv
  split at hv
  · rename_i cs
    obtain ⟨cs', rfl, hf⟩ := hv
    exact ⟨cs', rfl, F2_map_down (fun _ _ => ren2_down h) (by simpa using hf)⟩
  · rename_i hne
    have h1 : V2 β2 (ren2 ι bad v) x := by
      unfold V at hv
      split at hv
      · rename_i cs he
        exfalso
        unfold ren2 at he
        split at he
        · cases he
        · unfold ren1 at he
          split at he
          · cases he
          · cases he
          · exact hne _ he
      · exact hv
    have := ren2_down h h1
    unfold V
    split
    · exact absurd rfl (hne _)
    · exact this
theorem ren_up (h : Fits ι bad β1 β2) (hv : V β1 v x) : V β2 (ren ι bad v) x := by
  unfold ren
  split
  · rename_i cs
    obtain ⟨cs', rfl, hf⟩ := hv
    exact ⟨cs', rfl, by simpa using F2_map_up (R := V2 β2) (S := V2 β1) (fun _ _ => ren2_up h) hf⟩
  · rename_i hne
    have h1 : V2 β1 v x := by
      unfold V at hv
      split at hv
      · exact absurd rfl (hne _)
      · exact hv
    have h2 := ren2_up h h1
    refine V_of_V2 h2 fun vs e => ?_
    unfold ren2 at e
    split at e
    · cases e
    · unfold ren1 at e
      split at e
      · cases e
      · cases e
      · exact hne _ e
end

def flatRow : Row → Bool
  | .vals vs => vs.all Flat1
  | _ => true
theorem flatRow_ok {R : Row} (h : flatRow R = true) : ∀ v ∈ R.cells, Flat1 v = true := by
  cases R with
  | ints k xs => simp [Row.cells, Flat1]
  | strs xs => simp [Row.cells, Flat1]
  | vals vs => simpa [flatRow, Row.cells] using h

theorem BlkAt.flat {β' : Loc} {A : Place} {B : Blk} (h : BlkAt β w A B) (hf : flatRow B.row = true) : BlkAt β' w A B := by
  have hfl := flatRow_ok hf
  obtain ⟨h1, h2⟩ := h
  refine ⟨h1, ?_⟩
  split
  · rename_i hw
    rw [if_pos hw] at h2
    obtain ⟨N, h3, h4, cur, fr, h5, h6, h7, h8, h9⟩ := h2
    refine ⟨N, h3, h4, cur, fr, h5, h6, h7, h8, fun j v hv => ?_⟩
    obtain ⟨v', e1, e2⟩ := h9 j v hv
    have := hfl v (List.mem_of_getElem? hv)
    exact ⟨v', e1, (V1_flat this).2 ((V1_flat this).1 e2)⟩
  · rename_i hw
    rw [if_neg hw] at h2
    refine ⟨h2.1, fun j v hv => ?_⟩
    obtain ⟨v', e1, e2⟩ := h2.2 j v hv
    have := hfl v (List.mem_of_getElem? hv)
    exact ⟨v', e1, (V1_flat this).2 ((V1_flat this).1 e2)⟩

def nodupB : List Nat → Bool
  | [] => true
  | a :: l => !(l.contains a) && nodupB l
theorem nodupB_ok : ∀ {l : List Nat}, nodupB l = true → ∀ (i j : Nat) (a : Nat), l[i]? = some a → l[j]? = some a → i = j
  | [], _, i, j, a, h, _ => by simp at h
  | x :: l, hn, i, j, a, h1, h2 => by
    simp only [nodupB, Bool.and_eq_true, Bool.not_eq_true', List.contains_eq_mem, decide_eq_false_iff_not] at hn
    cases i with
    | zero =>
      simp at h1; subst h1
      cases j with
      | zero => rfl
      | succ j => simp at h2; exact absurd (List.mem_of_getElem? h2) hn.1
    | succ i =>
      simp at h1
      cases j with
      | zero => simp at h2; subst h2; exact absurd (List.mem_of_getElem? h1) hn.1
      | succ j => simp at h2; rw [nodupB_ok hn.2 i j a h1 h2]

/-- The callee's view: the keys that it is handed. -/
def view (H : Heap) (ι : List Nat) : Heap := ι.map fun k => H.getD k none

theorem getD_some {l : List Nat} {i d a : Nat} (h : l[i]? = some a) : l.getD i d = a := by
  rw [List.getD_eq_getElem?_getD, h]; rfl
theorem getD_none {l : List Nat} {i d : Nat} (h : l.length ≤ i) : l.getD i d = d := by
  rw [List.getD_eq_getElem?_getD, List.getElem?_eq_none h]; rfl


/-! #### A call that only reads what it is handed -/
def keysIn1 (n : Nat) : Value → Bool
  | .pointer (some p) => Nat.blt p.block n
  | .slice (some p) _ _ => Nat.blt p.block n
  | _ => true
def keysIn (n : Nat) : Value → Bool
  | .agg cs => cs.toList.all (keysIn1 n)
  | .tuple _ => false
  | v => keysIn1 n v
def roBlk (x : Option Blk) : Option Blk := match x with | some B => some ⟨false, B.ty, B.row⟩ | none => none
def roView (H : Heap) (ι : List Nat) : Heap := ι.map fun k => roBlk (H.getD k none)
def roOk (H : Heap) (ι : List Nat) : Bool := ι.all fun k => match H.getD k none with | some B => flatRow B.row && (!B.wr || Nat.blt B.ty globMark) | none => false

section
variable {ι : List Nat} {β1 β2 : Loc}
abbrev RoFits (ι : List Nat) (β1 β2 : Loc) : Prop := ∀ κ A, κ < ι.length → β2 (ι.getD κ 0) = some A → β1 κ = some ⟨A.addr, none⟩
theorem ro1 (h : RoFits ι β1 β2) {v x : Value} (hk : keysIn1 ι.length v = true) (hv : V1 β2 (ren1 ι 0 v) x) : V1 β1 v x := by
  unfold ren1 at hv
  split at hv
  · rename_i p
    have hlt : p.block < ι.length := Nat.le_of_ble_eq_true hk
    obtain ⟨A, h1, h2, h3⟩ := hv
    exact ⟨_, h _ _ hlt h1, h2, h3⟩
  · rename_i p n c
    have hlt : p.block < ι.length := Nat.le_of_ble_eq_true hk
    obtain ⟨h0, hn | ⟨A, h1, A', c', h2, h3, h4, h5⟩⟩ := hv
    · exact ⟨h0, .inl hn⟩
    · exact ⟨h0, .inr ⟨_, h _ _ hlt h1, A', c', h2, h3, h4, fun N e => by cases e⟩⟩
  · rename_i h1 h2
    unfold V1 at hv ⊢
    split <;> simp_all
theorem ro2 (h : RoFits ι β1 β2) {v x : Value} (hk : keysIn ι.length v = true) (hv : V β2 (ren ι 0 v) x) : V β1 v x := by
  have hne : ∀ vs, v ≠ .tuple vs := by rintro vs rfl; simp [keysIn] at hk
  have hv2 : V2 β2 (ren2 ι 0 v) x := by
    unfold ren at hv
    split at hv
    · rename_i vs; exact absurd rfl (hne vs)
    · unfold V at hv
      split at hv
      · rename_i vs e
        exfalso
        unfold ren2 at e
        split at e
        · cases e
        · unfold ren1 at e
          split at e
          · cases e
          · cases e
          · exact hne _ e
      · exact hv
  refine V_of_V2 ?_ hne
  unfold ren2 at hv2
  split at hv2
  · rename_i cs
    obtain ⟨cs', rfl, hf⟩ := hv2
    refine ⟨cs', rfl, ?_⟩
    have hall : ∀ u ∈ cs.toList, keysIn1 ι.length u = true := fun u hu => List.all_eq_true.1 (show cs.toList.all (keysIn1 ι.length) = true from hk) u hu
    have key : ∀ {l l' : List Value}, (∀ u ∈ l, keysIn1 ι.length u = true) → F2 (V1 β2) (l.map (ren1 ι 0)) l' → F2 (V1 β1) l l' := by
      intro l
      induction l with
      | nil => intro l' _ h'; cases h'; exact .nil
      | cons a l ih =>
        intro l' hl h'
        cases h' with
        | cons g1 g2 => exact .cons (ro1 h (hl a (by simp)) g1) (ih (fun u hu => hl u (by simp [hu])) g2)
    exact key hall (by simpa using hf)
  · rename_i hna
    have hk1 : keysIn1 ι.length v = true := by
      unfold keysIn at hk
      split at hk
      · rename_i cs; exact absurd rfl (hna cs)
      · cases hk
      · exact hk
    have h1 : V1 β2 (ren1 ι 0 v) x := by
      unfold V2 at hv2
      split at hv2
      · rename_i cs e
        exfalso
        unfold ren1 at e
        split at e
        · cases e
        · cases e
        · exact hna _ e
      · exact hv2
    exact V2_of_V1 (ro1 h hk1 h1)
end

theorem read_ok {H : Heap} (hR : RelB β H w) (hG : GlobOk β H) {o : Oper} {a : Act} {c : Call} {f : FuncId} {ι : List Nat} {as : List Value} {v : Value} {Hs' : Heap} (ho : o.op = .call c) (hc : c.callee = .value (.func f)) (hro : roOk H ι = true) (hki : as.all (keysIn ι.length) = true)
    (hv : F2 (V β) (as.map (ren ι 0)) (c.args.toList.map a.eval)) (hf : Flat v) (hp : FnOk P f as (roView H ι) v Hs') : Soft P o a β H w none v := by
  obtain ⟨⟨fn, h1, h2, h3⟩, hg⟩ := hp
  let βs : Loc := fun κ => match ι[κ]? with | some k => (β k).map (fun A => ⟨A.addr, none⟩) | none => none
  have hβs : ∀ {i k : Nat}, ι[i]? = some k → βs i = (β k).map (fun A => ⟨A.addr, none⟩) := fun h => by simp only [βs, h]
  have hβn : ∀ {i : Nat}, ι.length ≤ i → βs i = none := fun h => by simp only [βs, List.getElem?_eq_none h]
  have hfits : RoFits ι βs β := by
    intro κ A hκ hA
    have := List.getElem?_eq_getElem hκ
    rw [getD_some this] at hA
    rw [hβs this, hA]; rfl
  have hlook : ∀ {i : Nat} {B : Blk}, (roView H ι)[i]? = some (some B) → ∃ k B0, ι[i]? = some k ∧ H[k]? = some (some B0) ∧ B = ⟨false, B0.ty, B0.row⟩ ∧ flatRow B0.row = true ∧ (B0.wr = true → B0.ty < globMark) := by
    intro i B h
    simp only [roView, List.getElem?_map] at h
    cases hk : ι[i]? with
    | none => simp [hk] at h
    | some k =>
      simp [hk] at h
      have hmem := List.mem_of_getElem? hk
      unfold roOk at hro
      rw [List.all_eq_true] at hro
      have := hro k hmem
      rw [List.getD_eq_getElem?_getD] at this
      cases hH : H[k]? with
      | none => simp [hH] at this
      | some x =>
        cases x with
        | none => simp [hH] at this
        | some B0 =>
          simp [hH, roBlk] at h this
          refine ⟨k, B0, rfl, hH, h.symm, this.1, fun hw => ?_⟩
          rcases this.2 with h' | h'
          · rw [hw] at h'; cases h'
          · exact h'
  have hRs : Rel βs (roView H ι) w := by
    refine ⟨⟨?_, ?_, ?_⟩, fun κ h => hβn (by simpa [roView] using h), ?_⟩
    · intro i B A e1 e2
      obtain ⟨k, B0, g1, g2, rfl, g3, _⟩ := hlook e1
      rw [hβs g1] at e2
      cases hk : β k with
      | none => simp [hk] at e2
      | some A0 =>
        simp [hk] at e2
        subst e2
        have hb := hR.blk k B0 A0 g2 hk
        refine ⟨hb.1, ?_⟩
        simp only [Bool.false_eq_true, if_false]
        refine ⟨trivial, fun j u hu => ?_⟩
        obtain ⟨u', q1, q2⟩ := hb.readable j u hu
        have := flatRow_ok g3 u (List.mem_of_getElem? hu)
        exact ⟨u', q1, (V1_flat this).2 ((V1_flat this).1 q2)⟩
    · intro i j B B' A A' e1 e2 e3 e4 hne hw
      obtain ⟨k, B0, g1, g2, rfl, g3, _⟩ := hlook e1
      cases hw
    · intro i A e
      rcases Nat.lt_or_ge i ι.length with hl | hl
      · rw [hβs (List.getElem?_eq_getElem hl)] at e
        cases hk : β ι[i] with
        | none => simp [hk] at e
        | some A0 =>
          simp [hk] at e
          subst e
          show A0.addr.spot = none
          exact hR.spot _ A0 hk
      · rw [hβn hl] at e; cases e
    · intro i B g e1 _ e3
      obtain ⟨k, B0, g1, g2, rfl, g3, g4⟩ := hlook e1
      rw [hβs g1]
      have hnw : B0.wr = false := by
        cases hw : B0.wr with
        | false => rfl
        | true =>
          have h5 := g4 hw
          have h6 : B0.ty = globMark + g := e3
          exact absurd h5 (by rw [h6]; exact Nat.not_lt.2 (Nat.le_add_right _ _))
      rw [hG k B0 g g2 hnw e3]; rfl
  have hargs : F2 (V βs) as (c.args.toList.map a.eval) := by
    have key : ∀ {l l' : List Value}, l.all (keysIn ι.length) = true → F2 (V β) (l.map (ren ι 0)) l' → F2 (V βs) l l' := by
      intro l
      induction l with
      | nil => intro l' _ h'; cases h'; exact .nil
      | cons x l ih =>
        intro l' hl h'
        simp only [List.all_cons, Bool.and_eq_true] at hl
        cases h' with
        | cons g1 g2 => exact .cons (ro2 hfits hl.1 g1) (ih hl.2 g2)
    exact key hki hv
  intro K Q hK
  unfold Oper.wp
  rw [run_enter h1 h2 h3 ho hc, Oper.upon_enter]
  refine (hg βs _ w hargs hRs).mono ?_
  rintro e w' ⟨β', v', rfl, hv', htr⟩
  refine hK β v' w' ⟨Loc.le_refl _, (V_flat hf).2 ((V_flat hf).1 hv'), ⟨htr.os, htr.tape, htr.output, htr.size, fun b hb => htr.frame b hb fun κ B A e1 e2 _ => ?_⟩, fun κ A h => .inl h, fun B h => by cases h⟩
  obtain ⟨k, B0, g1, g2, rfl, g3, _⟩ := hlook e1
  cases e2

theorem pure_ok {H : Heap} {o : Oper} {a : Act} {c : Call} {f : FuncId} {vs : List Value} {v : Value} (ho : o.op = .call c) (hc : c.callee = .value (.func f)) (hv : F2 (V β) vs (c.args.toList.map a.eval)) (hf : FlatL vs) (hp : Pure P f vs v) : Soft P o a β H w none v := by
  obtain ⟨⟨fn, h1, h2, h3⟩, hg⟩ := hp
  have hvs := hf.eq hv
  intro K Q hK
  unfold Oper.wp
  rw [run_enter h1 h2 h3 ho hc, Oper.upon_enter, hvs]
  refine (hg (fun _ => none) vs w hf.mk (Rel.nil w)).mono ?_
  rintro e w' ⟨β', v', rfl, hv', htr⟩
  refine hK β v' w' ⟨Loc.le_refl _, V.mono (fun κ A h => ?_) hv', ⟨htr.os, htr.tape, htr.output, htr.size, fun b hb => htr.frame b hb (fun κ B A h => by simp at h)⟩, fun κ A h => .inl h, fun B h => by cases h⟩
  have := htr.rel.dom κ (Nat.zero_le _)
  rw [this] at h; cases h

structure QOut where
  v : Value
  N : Option Blk
  C : Prop
  hs : List Hint

def lift (r : Option (Value × Prop)) (hs : List Hint) : Option QOut := match r with | some (v, C) => some ⟨v, none, C, hs⟩ | none => none

def opds (T : Slots) : List Operand → Option (List Value)
  | [] => some []
  | x :: r => match opd T x, opds T r with
    | some v, some vs => some (v :: vs)
    | _, _ => none

theorem opds_ok {T : Slots} {a : Act} (ht : TR β T a) : ∀ {l : List Operand} {vs : List Value}, opds T l = some vs → F2 (V β) vs (l.map a.eval)
  | [], vs, h => by simp [opds] at h; subst h; exact .nil
  | x :: r, vs, h => by
    unfold opds at h
    split at h
    · rename_i v us h1 h2
      simp at h; subst h
      exact .cons (opd_ok ht h1) (opds_ok ht h2)
    · simp at h

def opt (T : Slots) : Option Operand → Option (Option Value)
  | none => some none
  | some x => match opd T x with | some (.int k n) => some (some (.int k n)) | _ => none

theorem opt_ok {T : Slots} {a : Act} (ht : TR β T a) {x : Option Operand} {v : Option Value} (h : opt T x = some v) : x.map a.eval = v := by
  unfold opt at h
  split at h
  · simp at h; subst h; rfl
  · split at h
    · rename_i x k n hx
      simp at h; subst h
      have := V_int.1 (opd_ok ht hx)
      simp [this]
    · simp at h

def isBool : Value → Bool
  | .bool _ => true
  | _ => false

def evQCall (P : Program) (Θ : Types) (T : Slots) (H : Heap) (c : Call) (hs : List Hint) : Option QOut :=
  match c.callee with
  | .builtin .len => match c.args.toList, c.argTypes.toList with
    | [x], [t] => match opd T x with
      | some v => lift (evLen Θ t v) hs
      | none => none
    | _, _ => none
  | .builtin .max => match opds T c.args.toList with
    | some vs => lift (evMax gMax vs) hs
    | none => none
  | .builtin .min => match opds T c.args.toList with
    | some vs => lift (evMax gMin vs) hs
    | none => none
  | .value (.func f) => match opds T c.args.toList, hs with
    | some vs, .call v :: hs' => some ⟨v, none, FlatL vs ∧ Pure P f vs v, hs'⟩
    | some vs, .callR ι as v Hs' :: hs' => if roOk H ι then some ⟨v, none, vs = as.map (ren ι 0) ∧ FnOk P f as (roView H ι) v Hs' ∧ Flat v ∧ as.all (keysIn ι.length) = true, hs'⟩ else none
    | _, _ => none
  | _ => none

/-! #### A cell of an array that is a value, at an open place: the hint tells its cells as a list -/
def evIndexA (Θ : Types) (n : Nat) (e : TypeId) (R : Row) : Value → Value → Option (Value × Prop)
  | .agg cs, .int _ i => match R, Θ.tv e, Θ.siz e with
    | .ints k xs, some (.int _), some 1 => some (.int k (rd xs i.toNat), (Row.ints k xs).cells = cs.toList ∧ 0 ≤ i ∧ i < n ∧ i.toNat < xs.length)
    | _, _, _ => none
  | _, _ => none
theorem evIndexA_ok {P : Program} {w : World} {β : Loc} {Θ : Types} (hΘ : Θ.Ok P) {t e : TypeId} {n : Nat} {R : Row} {x i v x' i' : Value} {C : Prop} (h : evIndexA Θ n e R x i = some (v, C)) (hC : C) (hx : V β x x') (hi : V β i i') (ht : P.underlying t = some (.array n e)) :
    RunV P w β (Instr.index t x' i') v := by
  unfold evIndexA at h
  split at h
  · rename_i cs k i
    split at h
    · rename_i k2 xs k3 htv hsz
      obtain ⟨rfl, rfl⟩ := some2 h
      obtain ⟨c1, c2, c3, c4⟩ := hC
      obtain ⟨cs', rfl, hf⟩ := V_agg.1 hx
      obtain rfl := V_int.1 hi
      obtain ⟨ei, hei, e2⟩ := look_siz hsz
      have hz := (hΘ.look hei).sizeOf w
      rw [e2] at hz
      have hag := run_isAgg hΘ htv (by simp) w
      have hcell : cs.toList[i.toNat]? = some (.int k2 (rd xs i.toNat)) := by
        rw [← c1]; simp [Row.cells, rd, List.getElem?_eq_getElem c4]
      obtain ⟨u, hu, hr⟩ := (forall2_get hf).2 _ _ hcell
      have hu' : cs'[i.toNat]? = some u := by simpa using hu
      refine ⟨u, ?_, V_of_V1 hr⟩
      simp [Instr.index, run_underlying ht, asIntOf, c2, c3, hz, part, hag, hu', isAggTV]
    · simp at h
  · simp at h

def evQ (P : Program) (Θ : Types) (T : Slots) (H : Heap) (o : Op) (hs : List Hint) : Option QOut :=
  match o with
  | .move x | .assign x => match opd T x with
    | some v => some ⟨v, none, True, hs⟩
    | none => none
  | .pick c x y => match opd T c, hs with
    | some (.bool cb), .b t :: hs' => match opd T (if t then x else y) with
      | some v => some ⟨v, none, cb = t, hs'⟩
      | none => none
    | _, _ => none
  | .binOp op xt x y _ => match opd T x, opd T y with
    | some vx, some vy =>
      match op with
      | .quo | .rem => match hs with
        | .b nn :: hs' => lift (evBin op nn vx vy) hs'
        | _ => none
      | _ => if isBool vx then match Θ.tv xt with
               | some .bool => lift (evBin op false vx vy) hs
               | _ => none
             else lift (evBin op false vx vy) hs
    | _, _ => none
  | .unOp op _ x => match opd T x with
    | some v => lift (evUn op v) hs
    | none => none
  | .convert s d x => match opd T x with
    | some v => match evConv Θ H s d v with
      | some (.val u, C) => some ⟨u, none, C, hs⟩
      | some (.new u B, C) => some ⟨u, some B, C, hs⟩
      | none => none
    | none => none
  | .index t x i => match opd T x, opd T i, Θ.tv t with
    | some vx, some vi, some .str => lift (evIndex vx vi) hs
    | some vx, some vi, some (.arr n e) => match hs with
      | .row R :: hs' => lift (evIndexA Θ n e R vx vi) hs'
      | _ => none
    | _, _, _ => none
  | .indexAddr t x i => match opd T x, opd T i with
    | some vx, some vi => lift (evIndexAddr Θ t vx vi) hs
    | _, _ => none
  | .fieldAddr t x f => match opd T x with
    | some v => lift (evFieldAddr Θ t f v) hs
    | none => none
  | .field t x f => match opd T x with
    | some v => lift (evField Θ t f v) hs
    | none => none
  | .nilCheck x => match opd T x with
    | some v => lift (evNil v) hs
    | none => none
  | .extract x i => match opd T x with
    | some v => lift (evExtract i v) hs
    | none => none
  | .slice t x lo hi none => match opd T x, opt T lo, opt T hi with
    | some v, some l, some h => lift (evSlice Θ H t l h v) hs
    | _, _, _ => none
  | .load t x => match opd T x with
    | some v => lift (evLoad Θ H t v) hs
    | none => none
  | .alloc t => match evAlloc Θ H t, Θ.look t with
    | some (v, B), some ti => if zflat ti then some ⟨v, some B, True, hs⟩ else none
    | _, _ => none
  | .box t x => match opd T x, hs with
    | some (.agg cs), .row R :: hs' => match evBox H t (some R) (.agg cs) with
      | some (v, B, C) => some ⟨v, some B, C, hs'⟩
      | none => none
    | some v, hs => match evBox H t none v with
      | some (v, B, C) => some ⟨v, some B, C, hs⟩
      | none => none
    | none, _ => none
  | .build t parts => match opds T (parts.toList.map (·.2)), hs with
    | some vs, .call v :: hs' => some ⟨v, none, FlatL vs ∧ Flat v ∧ ∀ w, (Instr.build t ((parts.toList.map (·.1)).zip vs).toArray).run P w = .ok v w, hs'⟩
    | _, _ => none
  | .buildSlice t n parts => match opds T (parts.toList.map (·.2)) with
    | some vs => match evBuildSlice Θ H t n (parts.toList.map (·.1)) vs with
      | some (v, B) => some ⟨v, some B, True, hs⟩
      | none => none
    | none => none
  | .makeSlice t l c => match opd T l, opd T c with
    | some vl, some vc => match evMake Θ H t vl vc with
      | some (v, B, C) => some ⟨v, some B, C, hs⟩
      | none => none
    | _, _ => none
  | .call c => evQCall P Θ T H c hs
  | _ => none

theorem lift_some {r : Option (Value × Prop)} {hs : List Hint} {q : QOut} (h : lift r hs = some q) : r = some (q.v, q.C) ∧ q.N = none ∧ q.hs = hs := by
  unfold lift at h
  split at h
  · simp at h; subst h; exact ⟨rfl, rfl, rfl⟩
  · simp at h

theorem soft_run {H : Heap} {o : Oper} {a : Act} {v : Value} {m : Sem Value} (hex : execOp a.eval o = (do pure (.value (← m)))) (hr : RunV P w β m v) : Soft P o a β H w none v := by
  obtain ⟨v', h1, h2⟩ := hr
  exact soft_value (by rw [hex]; simp [h1]) h2

theorem evQ_ok {Θ : Types} (hΘ : Θ.Ok P) {T : Slots} {H : Heap} {o : Oper} {a : Act} {hs : List Hint} {q : QOut} (h : evQ P Θ T H o.op hs = some q) (hC : q.C) (ht : TR β T a) (hR : RelB β H w) (hG : GlobOk β H) (hkey : β H.length = none ∨ q.N = none) :
    Soft P o a β H w q.N q.v := by
  unfold evQ at h
  split at h
  · -- move
    rename_i x ho
    split at h
    · rename_i v hv
      simp at h; subst h
      exact soft_value (v' := a.eval x) (by unfold execOp; simp [ho]) (opd_ok ht hv)
    · simp at h
  · rename_i x ho
    split at h
    · rename_i v hv
      simp at h; subst h
      exact soft_value (v' := a.eval x) (by unfold execOp; simp [ho]) (opd_ok ht hv)
    · simp at h
  · -- pick
    rename_i c x y ho
    split at h
    · rename_i cb t hs' hc
      split at h
      · rename_i v hv
        simp at h; subst h
        simp only at hC
        subst hC
        have e := V_bool.1 (opd_ok ht hc)
        refine soft_value (v' := a.eval (if cb then x else y)) ?_ (opd_ok ht hv)
        unfold execOp
        simp [ho, e, asBool]
        cases cb <;> rfl
      · simp at h
    · simp at h
  · -- binOp
    rename_i op xt x y yt ho
    split at h
    · rename_i vx vy hx hy
      have key : ∀ {nn : Bool} {hs' : List Hint}, lift (evBin op nn vx vy) hs' = some q → (∀ u v, vx = .bool u → vy = .bool v → P.underlying xt = some .bool) → Soft P o a β H w q.N q.v := by
        intro nn hs' h hb
        obtain ⟨h1, h2, -⟩ := lift_some h
        rw [h2]
        obtain ⟨s1, s2, s3⟩ := evBin_scalar h1
        have ex := (scalar_V s1).1 (opd_ok ht hx)
        have ey := (scalar_V s2).1 (opd_ok ht hy)
        have hr := evBin_ok (P := P) (w := w) (t := xt) h1 hC hb
        refine soft_value (v' := q.v) ?_ ((scalar_V s3).2 rfl)
        unfold execOp
        have h2' := hr.2 x y
        simp [ho, ex, ey, h2', hr.1]
      split at h
      · split at h
        · exact key h (fun u v e => by
            obtain ⟨h1, _⟩ := lift_some h
            subst e
            unfold evBin at h1
            split at h1 <;> simp_all)
        · simp at h
      · split at h
        · exact key h (fun u v e => by
            obtain ⟨h1, _⟩ := lift_some h
            subst e
            unfold evBin at h1
            split at h1 <;> simp_all)
        · simp at h
      · split at h
        · split at h
          · rename_i htv
            obtain ⟨ti, hti, e1⟩ := look_tv htv
            exact key h (fun _ _ _ _ => (hΘ.look hti).bool e1)
          · simp at h
        · rename_i hb
          exact key h (fun u v e => by subst e; simp [isBool] at hb)
    · simp at h
  · -- unOp
    rename_i op ty x ho
    split at h
    · rename_i v hv
      obtain ⟨h1, h2, -⟩ := lift_some h
      rw [h2]
      obtain ⟨s1, s2⟩ := evUn_scalar h1
      have ex := (scalar_V s1).1 (opd_ok ht hv)
      have hr := evUn_ok (P := P) (w := w) h1 hC
      exact soft_value (v' := q.v) (by unfold execOp; simp [ho, ex, hr]) ((scalar_V s2).2 rfl)
    · simp at h
  · -- convert
    rename_i s d x ho
    split at h
    · rename_i v hv
      split at h
      · rename_i u C hcv
        simp at h; subst h
        exact evConv_ok hΘ hR ho hcv hC (opd_ok ht hv) (fun v B e => by cases e)
      · rename_i u B C hcv
        simp at h; subst h
        exact evConv_ok hΘ hR ho hcv hC (opd_ok ht hv) (fun v B e => hkey.resolve_right (by simp))
      · simp at h
    · simp at h
  · -- index
    rename_i t x i ho
    split at h
    · rename_i vx vi hx hi htv
      obtain ⟨h1, h2, -⟩ := lift_some h
      rw [h2]
      obtain ⟨ti, hti, e1⟩ := look_tv htv
      exact soft_run (by unfold execOp; simp [ho]) (evIndex_ok h1 hC (opd_ok ht hx) (opd_ok ht hi) ((hΘ.look hti).str e1))
    · rename_i vx vi n e hx hi htv
      split at h
      · obtain ⟨h1, h2, -⟩ := lift_some h
        rw [h2]
        obtain ⟨ti, hti, e1⟩ := look_tv htv
        exact soft_run (by unfold execOp; simp [ho]) (evIndexA_ok hΘ h1 hC (opd_ok ht hx) (opd_ok ht hi) ((hΘ.look hti).arr e1))
      · simp at h
    · simp at h
  · rename_i t x i ho
    split at h
    · rename_i vx vi hx hi
      obtain ⟨h1, h2, -⟩ := lift_some h
      rw [h2]
      exact soft_run (by unfold execOp; simp [ho]) (evIndexAddr_ok hΘ hR h1 hC (opd_ok ht hx) (opd_ok ht hi))
    · simp at h
  · rename_i t x f ho
    split at h
    · rename_i v hv
      obtain ⟨h1, h2, -⟩ := lift_some h
      rw [h2]
      exact soft_run (by unfold execOp; simp [ho]) (evFieldAddr_ok hΘ hR h1 hC (opd_ok ht hv))
    · simp at h
  · rename_i t x f ho
    split at h
    · rename_i v hv
      obtain ⟨h1, h2, -⟩ := lift_some h
      rw [h2]
      exact soft_run (by unfold execOp; simp [ho]) (evField_ok hΘ h1 hC (opd_ok ht hv))
    · simp at h
  · rename_i x ho
    split at h
    · rename_i v hv
      obtain ⟨h1, h2, -⟩ := lift_some h
      rw [h2]
      unfold evNil at h1
      split at h1
      · rename_i p
        obtain ⟨A, hA, hs, e⟩ := V_ptr.1 (opd_ok ht hv)
        obtain ⟨e1, -⟩ := some2 h1
        rw [← e1]
        exact soft_value (v' := .pointer (some (A.addr.add p.off))) (by unfold execOp; simp [ho, e]) (V_ptr.2 ⟨A, hA, hs, rfl⟩)
      · simp at h1
    · simp at h
  · rename_i x i ho
    split at h
    · rename_i v hv
      obtain ⟨h1, h2, -⟩ := lift_some h
      rw [h2]
      exact soft_run (by unfold execOp; simp [ho]) (evExtract_ok h1 (opd_ok ht hv))
    · simp at h
  · -- slice
    rename_i t x lo hi ho
    split at h
    · rename_i v l hh hv hlo hhi
      obtain ⟨h1, h2, -⟩ := lift_some h
      rw [h2]
      have e1 := opt_ok ht hlo
      have e2 := opt_ok ht hhi
      exact soft_run (m := Instr.sliceAt t (a.eval x) l hh none) (by unfold execOp; simp [ho, e1, e2]) (evSlice_ok hΘ hR h1 hC (opd_ok ht hv))
    · simp at h
  · rename_i t x ho
    split at h
    · rename_i v hv
      obtain ⟨h1, h2, -⟩ := lift_some h
      rw [h2]
      exact soft_run (by unfold execOp; simp [ho]) (evLoad_ok hΘ hR h1 hC (opd_ok ht hv))
    · simp at h
  · -- alloc
    rename_i t ho
    split at h
    · rename_i v B ti h1 h2
      split at h
      · rename_i hz
        simp at h; subst h
        exact evAlloc_ok hΘ ho h1 (fun ti' e => by rw [h2] at e; cases e; exact hz) (hkey.resolve_right (by simp))
      · simp at h
    · simp at h
  · -- box
    rename_i t x ho
    split at h
    · rename_i cs R hs' hv
      split at h
      · rename_i v B C hb
        simp at h; subst h
        exact evBox_ok ho hb hC (opd_ok ht hv) (hkey.resolve_right (by simp))
      · simp at h
    · rename_i v hs' hv _
      split at h
      · rename_i u B C hb
        simp at h; subst h
        exact evBox_ok ho hb hC (opd_ok ht hv) (hkey.resolve_right (by simp))
      · simp at h
    · simp at h
  · -- build
    rename_i t parts ho
    split at h
    · rename_i vs v hs' hvs
      simp at h; subst h
      obtain ⟨c1, c2, c3⟩ := hC
      have e := c1.eq (opds_ok ht hvs)
      have e2 : (parts.map fun x => (x.1, a.eval x.2)) = ((parts.toList.map (·.1)).zip vs).toArray := by
        rw [← e, List.map_map]
        apply Array.toList_inj.1
        simp [List.zip_map', Function.comp_def]
      refine soft_value (v' := v) ?_ ((V_flat c2).2 rfl)
      unfold execOp
      simp only [ho, Sem.run_bind]
      rw [e2, c3 w]
      rfl
    · simp at h
  · -- buildSlice
    rename_i t n parts ho
    split at h
    · rename_i vs hvs
      split at h
      · rename_i v B hb
        simp at h; subst h
        have := opds_ok ht hvs
        rw [List.map_map] at this
        exact evBuildSlice_ok hΘ ho hb this (hkey.resolve_right (by simp))
      · simp at h
    · simp at h
  · -- makeSlice
    rename_i t l c ho
    split at h
    · rename_i vl vc hl hc
      split at h
      · rename_i v B C hb
        simp at h; subst h
        exact evMake_ok hΘ ho hb hC (opd_ok ht hl) (opd_ok ht hc) (hkey.resolve_right (by simp))
      · simp at h
    · simp at h
  · -- calls
    rename_i c ho
    unfold evQCall at h
    split at h
    · rename_i hc
      split at h
      · rename_i x t hx hty
        split at h
        · rename_i v hv
          obtain ⟨h1, h2, -⟩ := lift_some h
          rw [h2]
          have hl := evLen_ok (w := w) hΘ (ty := o.type) h1 (opd_ok ht hv)
          have ea : c.args.map a.eval = #[a.eval x] := by apply Array.toList_inj.1; simp [hx]
          have et : c.argTypes = #[t] := by apply Array.toList_inj.1; simp [hty]
          exact soft_run (m := Builtin.len_ #[t] o.type #[a.eval x]) (by unfold execOp; simp [ho, resolve, hc, invoke, builtin, ea, et]) hl
        · simp at h
      · simp at h
    · rename_i hc
      split at h
      · rename_i vs hvs
        obtain ⟨h1, h2, -⟩ := lift_some h
        rw [h2]
        have hl := evMaxMax_ok (P := P) (w := w) (ts := c.argTypes) (ty := o.type) h1 (opds_ok ht hvs)
        have ea : (c.args.toList.map a.eval).toArray = c.args.map a.eval := Array.toList_inj.1 (by simp)
        rw [ea] at hl
        exact soft_run (by unfold execOp; simp [ho, resolve, hc, invoke, builtin]) hl
      · simp at h
    · rename_i hc
      split at h
      · rename_i vs hvs
        obtain ⟨h1, h2, -⟩ := lift_some h
        rw [h2]
        have hl := evMaxMin_ok (P := P) (w := w) (ts := c.argTypes) (ty := o.type) h1 (opds_ok ht hvs)
        have ea : (c.args.toList.map a.eval).toArray = c.args.map a.eval := Array.toList_inj.1 (by simp)
        rw [ea] at hl
        exact soft_run (by unfold execOp; simp [ho, resolve, hc, invoke, builtin]) hl
      · simp at h
    · rename_i f hc
      split at h
      · rename_i vs v hs' hvs
        simp at h; subst h
        exact pure_ok ho hc (opds_ok ht hvs) hC.1 hC.2
      · rename_i vs ι as v Hs' hs' hvs
        split at h
        · rename_i hk
          simp only [Option.some.injEq] at h; subst h
          obtain ⟨c1, c2, c3, c4⟩ := hC
          have hv := opds_ok ht hvs
          rw [c1] at hv
          exact read_ok hR hG ho hc hk c4 hv c3 c2
        · simp at h
      · simp at h
    · simp at h
  · simp at h
end

end Go.Proofs.Ytgkplkmjnpofkaa.Abs
namespace Go.Proofs.Ytgkplkmjnpofkaa.Abs
open Go Go.RowKit

section
variable {P : Program} {w : World} {β : Loc}

def Hard (P : Program) (o : Oper) (a : Act) (β : Loc) (H : Heap) (w : World) (H' : Heap) (v : Value) : Prop :=
  ∀ (K : Act → World → Prop) (Q : Exit → Act → World → Prop), (∀ β' v' w', V β' v v' → Tr β H w β' H' w' → K (a.put o.dst v') w') → o.wp P a w K Q

def grow (H : Heap) (N : Option Blk) : Heap := match N with | some B => H ++ [some B] | none => H

theorem BlkAt.keep {β β' : Loc} (hb : β.le β') {w w' : World} {a : Place} {B : Blk} (hB : BlkAt β w a B) (hw : B.wr = true ∨ B.row.cells ≠ [] → w'.heap[a.addr.block]? = w.heap[a.addr.block]?) : BlkAt β' w' a B := by
  by_cases hn : B.wr = true ∨ B.row.cells ≠ []
  · exact hB.same hb (hw hn)
  · have h1 : ¬ B.wr = true := fun e => hn (.inl e)
    have h2 : B.row.cells = [] := Classical.byContradiction fun e => hn (.inr e)
    have h3 := hB.2
    rw [if_neg h1] at h3
    refine ⟨hB.1, ?_⟩
    rw [if_neg h1, h2]
    exact ⟨h3.1, fun j v hv => by simp at hv⟩

theorem Tr.refl {H : Heap} (hR : Rel β H w) : Tr β H w β H w :=
  ⟨Loc.le_refl _, Nat.le_refl _, fun _ _ _ h => h, hR, rfl, rfl, rfl, Nat.le_refl _, fun _ _ _ => rfl, fun κ B A h1 h2 h3 => .inr ⟨κ, B, A, h1, h2, h3, rfl⟩⟩

theorem Tr.trans {β1 β2 β3 : Loc} {H1 H2 H3 : Heap} {w1 w2 w3 : World} (h : Tr β1 H1 w1 β2 H2 w2) (k : Tr β2 H2 w2 β3 H3 w3) : Tr β1 H1 w1 β3 H3 w3 where
  le := Loc.le_trans h.le k.le
  len := Nat.le_trans h.len k.len
  fix := fun κ A hκ e => h.fix κ A hκ (k.fix κ A (Nat.lt_of_lt_of_le hκ h.len) e)
  rel := k.rel
  os := k.os.trans h.os
  tape := k.tape.trans h.tape
  output := k.output.trans h.output
  size := Nat.le_trans h.size k.size
  frame := fun b hb hm => by
    rw [k.frame b (Nat.lt_of_lt_of_le hb h.size) (fun κ B A e1 e2 e3 => ?_), h.frame b hb hm]
    rcases h.muts κ B A e1 e2 e3 with hge | ⟨κ0, B0, A0, f1, f2, f3, f4⟩
    · omega
    · rw [← f4]; exact hm κ0 B0 A0 f1 f2 f3
  muts := fun κ B A e1 e2 e3 => by
    rcases k.muts κ B A e1 e2 e3 with hge | ⟨κ0, B0, A0, f1, f2, f3, f4⟩
    · left; have := h.size; omega
    · rcases h.muts κ0 B0 A0 f1 f2 f3 with hge | ⟨κ1, B1, A1, g1, g2, g3, g4⟩
      · left; omega
      · right; exact ⟨κ1, B1, A1, g1, g2, g3, g4.trans f4⟩

theorem grow_old {H : Heap} {N : Option Blk} {κ : Nat} {B : Blk} (h : (grow H N)[κ]? = some (some B)) : H[κ]? = some (some B) ∨ (κ = H.length ∧ N = some B) := by
  cases N with
  | none => exact .inl h
  | some B' =>
    simp only [grow] at h
    rw [List.getElem?_append] at h
    split at h
    · exact .inl h
    · rename_i hge
      have : κ = H.length := by
        rcases Nat.lt_trichotomy κ H.length with h1 | h1 | h1
        · omega
        · exact h1
        · rw [List.getElem?_eq_none (by simp; omega)] at h; cases h
      subst this
      simp at h; subst h
      exact .inr ⟨rfl, rfl⟩

theorem StepQ.tr {H : Heap} {N : Option Blk} {v : Value} {β' : Loc} {v' : Value} {w' : World} (hR : Rel β H w) (h : StepQ β H N v w β' v' w') : Tr β H w β' (grow H N) w' := by
  have hold : ∀ κ a, κ < H.length → β' κ = some a → β κ = some a := fun κ a hlt e => by
    rcases h.only κ a e with h1 | ⟨h1, _⟩
    · exact h1
    · omega
  have hlt : ∀ {κ : Nat} {x : Option Blk}, H[κ]? = some x → κ < H.length := fun h => (List.getElem?_eq_some_iff.1 h).1
  have hnew : ∀ B a, N = some B → β' H.length = some a → BlkAt β' w' a B ∧ w.heap.size ≤ a.addr.block := by
    intro B a hN ha
    obtain ⟨A, h1, h2, h3, _⟩ := h.new B hN
    rw [ha] at h1; cases h1
    exact ⟨h2, h3⟩
  refine ⟨h.le, by cases N <;> simp [grow], fun κ A hκ e => hold κ A hκ e, ⟨⟨?_, ?_, ?_⟩, ?_, ?_⟩, h.ext.os, h.ext.tape, h.ext.output, h.ext.size, fun b hb _ => h.ext.block b hb, ?_⟩
  · intro κ B a e1 e2
    rcases grow_old e1 with e | ⟨rfl, e⟩
    · exact (hR.blk κ B a e (hold κ a (hlt e) e2)).ext h.le h.ext
    · exact (hnew B a e e2).1
  · intro κ κ' B B' a a' e1 e2 e3 e4 hne hw hn
    rcases grow_old e1 with f1 | ⟨g1, f1⟩ <;> rcases grow_old e2 with f2 | ⟨g2, f2⟩
    · exact hR.sep κ κ' B B' a a' f1 f2 (hold κ a (hlt f1) e3) (hold κ' a' (hlt f2) e4) hne hw hn
    · subst g2
      have h1 := (hR.blk κ B a f1 (hold κ a (hlt f1) e3)).lt (.inl hw)
      have h2 := (hnew B' a' f2 e4).2
      omega
    · subst g1
      have h1 := (hR.blk κ' B' a' f2 (hold κ' a' (hlt f2) e4)).lt hn
      have h2 := (hnew B a f1 e3).2
      omega
    · omega
  · intro κ a e
    rcases h.only κ a e with h1 | ⟨_, _, _, h1⟩
    · exact hR.spot κ a h1
    · exact h1
  · intro κ hκ
    cases e : β' κ with
    | none => rfl
    | some a =>
      exfalso
      rcases h.only κ a e with h1 | ⟨h1, h2, _⟩
      · have := hR.dom κ (by cases N <;> simp [grow] at hκ <;> omega)
        rw [this] at h1; cases h1
      · cases N with
        | none => exact h2 rfl
        | some B => simp [grow] at hκ; omega
  · intro κ B g e1 e2 e3
    rcases grow_old e1 with e | ⟨_, e⟩
    · exact h.le _ _ (hR.glob κ B g e e2 e3)
    · obtain ⟨A, _, _, _, _, h5⟩ := h.new B e
      rw [h5] at e2; cases e2
  · intro κ B A e1 e2 e3
    rcases grow_old e1 with e | ⟨rfl, e⟩
    · exact .inr ⟨κ, B, A, e, e2, hold κ A (hlt e) e3, rfl⟩
    · exact .inl (hnew B A e e3).2

theorem Soft.hard {H : Heap} {o : Oper} {a : Act} {N : Option Blk} {v : Value} (hR : Rel β H w) (h : Soft P o a β H w N v) : Hard P o a β H w (grow H N) v :=
  fun K Q hK => h K Q fun β' v' w' hs => hK β' v' w' hs.val (hs.tr hR)

/-! ### 7. Writing -/
/-- A block of ours is written: the others stand. -/
theorem tr_write {H : Heap} (hR : Rel β H w) {κ : Nat} {B : Blk} {A : Place} {N : Nat} {R' : Row} {w' : World} (hB : H[κ]? = some (some B)) (hw : B.wr = true) (hA : β κ = some A) (hN : A.cap = some N)
    (hos : w'.os = w.os) (htape : w'.tape = w.tape) (hout : w'.output = w.output) (hsz : w'.heap.size = w.heap.size) (hoth : ∀ k, k ≠ A.addr.block → w'.heap[k]? = w.heap[k]?)
    (hown : Own β w' A.addr N B.ty R'.cells) : Tr β H w β (H.set κ (some ⟨true, B.ty, R'⟩)) w' := by
  have hlt : κ < H.length := (List.getElem?_eq_some_iff.1 hB).1
  have hget : ∀ {κ' : Nat} {B' : Blk}, (H.set κ (some ⟨true, B.ty, R'⟩))[κ']? = some (some B') → (κ' = κ ∧ B' = ⟨true, B.ty, R'⟩) ∨ (κ' ≠ κ ∧ H[κ']? = some (some B')) := by
    intro κ' B' h
    rw [List.getElem?_set] at h
    split at h
    · rename_i e; subst e
      simp [hlt] at h
      exact .inl ⟨rfl, h.symm⟩
    · rename_i e; exact .inr ⟨fun h' => e h'.symm, h⟩
  refine ⟨Loc.le_refl _, by simp, fun _ _ _ h => h, ⟨⟨?_, ?_, hR.spot⟩, fun κ' h => hR.dom κ' (by simpa using h), fun κ' B' g e1 e2 e3 => (hget e1).elim (fun h => by rw [h.2] at e2; cases e2) (fun h => hR.glob κ' B' g h.2 e2 e3)⟩, hos, htape, hout, by omega, fun b hb hm => hoth b (fun e => hm κ B A hB hw hA e.symm), ?_⟩
  · intro κ' B' a e1 e2
    rcases hget e1 with ⟨rfl, rfl⟩ | ⟨hne, e1⟩
    · rw [hA] at e2; cases e2
      exact ⟨hR.spot _ _ hA, by rw [if_pos rfl]; exact ⟨N, hN, hown⟩⟩
    · exact (hR.blk κ' B' a e1 e2).keep (Loc.le_refl _) fun hn => hoth _ (fun e => hR.sep κ κ' B B' A a hB e1 hA e2 (Ne.symm hne) hw hn e.symm)
  · intro κ1 κ2 B1 B2 a1 a2 e1 e2 e3 e4 hne hw1 hn
    rcases hget e1 with ⟨g1, rfl⟩ | ⟨n1, f1⟩ <;> rcases hget e2 with ⟨g2, rfl⟩ | ⟨n2, f2⟩
    · exact absurd (g1.trans g2.symm) hne
    · subst g1; exact hR.sep _ _ B B2 a1 a2 hB f2 e3 e4 hne hw hn
    · subst g2; exact hR.sep _ _ B1 B a1 a2 f1 hB e3 e4 hne hw1 (.inl hw)
    · exact hR.sep _ _ B1 B2 a1 a2 f1 f2 e3 e4 hne hw1 hn
  · intro κ1 B1 A1 e1 e2 e3
    rcases hget e1 with ⟨rfl, rfl⟩ | ⟨n1, e1⟩
    · exact .inr ⟨_, B, A, hB, hw, hA, by rw [hA] at e3; cases e3; rfl⟩
    · exact .inr ⟨κ1, B1, A1, e1, e2, e3, rfl⟩

structure Stored (w w' : World) (b : Nat) (ty : TypeId) (fr : Nat × Nat) (cur : Array Value) (o : Nat) (vs : List Value) : Prop where
  blk : ∃ cur' : Array Value, w'.heap[b]? = some (.cells cur' ty fr) ∧ cur'.size = cur.size ∧ (∀ j : Nat, j < vs.length → cur'[o + j]? = vs[j]?) ∧ ∀ j : Nat, (j < o ∨ o + vs.length ≤ j) → cur'[j]? = cur[j]?
  os : w'.os = w.os
  tape : w'.tape = w.tape
  output : w'.output = w.output
  size : w'.heap.size = w.heap.size
  other : ∀ k, k ≠ b → w'.heap[k]? = w.heap[k]?

theorem V1_one {v v' : Value} (h : V1 β v v') : v'.oneCell' = true := by
  have := V1_notagg h
  unfold V1 at h
  split at h
  · obtain ⟨A, _, _, rfl⟩ := h; rfl
  · obtain ⟨_, ⟨_, rfl⟩ | ⟨A, _, A', c', rfl, _⟩⟩ := h <;> rfl
  · obtain ⟨_, _, rfl⟩ := h; rfl
  all_goals first
    | exact h.elim
    | (subst h
       unfold Value.oneCell'
       split <;> simp_all)

theorem storeCells_ok (b o : Nat) (ty : TypeId) (fr : Nat × Nat) : ∀ (vs : List Value) (i : Nat) (w : World) (cur : Array Value), w.heap[b]? = some (.cells cur ty fr) → (∀ j : Nat, j < cur.size → ¬ (fr.1 ≤ j ∧ j < fr.2)) →
    o + i + vs.length ≤ cur.size → (∀ v ∈ vs, v.oneCell' = true) → ∃ w', (storeCells ⟨b, o, none⟩ vs i).run P w = .ok () w' ∧ Stored w w' b ty fr cur (o + i) vs
  | [], i, w, cur, hg, _, _, _ => ⟨w, by simp [storeCells], ⟨⟨cur, hg, rfl, fun j h => by simp at h, fun _ _ => rfl⟩, rfl, rfl, rfl, rfl, fun _ _ => rfl⟩⟩
  | v :: rest, i, w, cur, hg, hf, hl, h1 => by
    simp only [List.length_cons] at hl
    have hi : o + i < cur.size := by omega
    have hadd : (⟨b, o, none⟩ : Addr).add i = ⟨b, o + i, none⟩ := by unfold Addr.add; split <;> simp_all
    have hcell : w.cell? ⟨b, o + i, none⟩ = some cur[o + i] := by simp [World.cell?, hg, hi]
    have hfro : w.frozen? ⟨b, o + i, none⟩ = false := by
      have := hf (o + i) hi
      simp only [World.frozen?, hg]
      simpa using this
    have hst : (store ((⟨b, o, none⟩ : Addr).add i) v).run P w = .ok () (w.setCell ⟨b, o + i, none⟩ v) := by
      rw [hadd, run_store P w _ v _ (h1 v (by simp)), hcell]
      simp [hfro]
    have hblk : (w.setCell ⟨b, o + i, none⟩ v).heap[b]? = some (.cells (cur.setIfInBounds (o + i) v) ty fr) := by
      simp [World.setCell, Array.getElem?_modify, hg]
    obtain ⟨w', hrun, ⟨⟨cur', c1, c2, c3, c4⟩, s1, s2, s3, s4, s5⟩⟩ := storeCells_ok b o ty fr rest (i + 1) (w.setCell ⟨b, o + i, none⟩ v) (cur.setIfInBounds (o + i) v) hblk (by simpa using hf) (by simp; omega) (fun x hx => h1 x (by simp [hx]))
    refine ⟨w', by simp only [storeCells, Sem.run_bind, hst, Result.andThen_ok, hrun], ⟨⟨cur', c1, by simpa using c2, fun j hj => ?_, fun j hj => ?_⟩, s1, s2, s3, ?_, fun k hk => ?_⟩⟩
    · cases j with
      | zero =>
        have := c4 (o + i) (.inl (by omega))
        rw [Nat.add_zero, this, Array.getElem?_setIfInBounds_self_of_lt hi]; rfl
      | succ j =>
        have := c3 j (by simpa using hj)
        rw [show o + i + (j + 1) = o + (i + 1) + j by omega, this]; rfl
    · simp only [List.length_cons] at hj
      rw [c4 j (by omega), Array.getElem?_setIfInBounds_ne (by omega)]
    · rw [s4]; simp [World.setCell]
    · rw [s5 k hk]; exact Below.heap_setCell w _ v k (by simpa using hk)

/-- A stretch of a row is written. -/
def spl (l : List Value) (o : Nat) (seg : List Value) : List Value := l.take o ++ seg ++ l.drop (o + seg.length)

theorem spl_get {l seg : List Value} {o : Nat} (h : o + seg.length ≤ l.length) (j : Nat) : (spl l o seg)[j]? = if j < o then l[j]? else if j < o + seg.length then seg[j - o]? else l[j]? := by
  unfold spl
  by_cases h1 : j < o
  · rw [if_pos h1, List.append_assoc, List.getElem?_append_left (by simp; omega), List.getElem?_take, if_pos h1]
  · rw [if_neg h1]
    by_cases h2 : j < o + seg.length
    · rw [if_pos h2, List.append_assoc, List.getElem?_append_right (by simp; omega)]
      rw [List.length_take, Nat.min_eq_left (by omega), List.getElem?_append_left (by omega)]
    · rw [if_neg h2, List.getElem?_append_right (by simp; omega), List.getElem?_drop]
      congr 1
      simp
      omega

theorem own_stored {A : Addr} {N : Nat} {ty : TypeId} {cells seg seg' : List Value} {o : Nat} {w' : World} (hA : Own β w A N ty cells) (hs : A.spot = none) (hseg : F2 (V1 β) seg seg') (hfit : o + seg.length ≤ cells.length) :
    ∃ cur fr, w.heap[A.block]? = some (.cells cur ty fr) ∧ (∀ j : Nat, j < cur.size → ¬ (fr.1 ≤ j ∧ j < fr.2)) ∧ o + seg'.length ≤ cur.size ∧ (Stored w w' A.block ty fr cur o seg' → Own β w' A N ty (spl cells o seg)) := by
  obtain ⟨h0, cur, fr, hg, hN, hf, hl, hc⟩ := hA
  have hgs := forall2_get hseg
  refine ⟨cur, fr, hg, by rw [hN]; exact hf, by omega, ?_⟩
  rintro ⟨⟨cur', c1, c2, c3, c4⟩, -, -, -, -, -⟩
  refine ⟨h0, cur', fr, c1, by omega, hf, ?_, fun j v hv => ?_⟩
  · unfold spl; simp; omega
  · rw [spl_get hfit] at hv
    split at hv
    · obtain ⟨v', e1, e2⟩ := hc j v hv
      exact ⟨v', by rw [c4 j (by omega)]; exact e1, e2⟩
    · split at hv
      · obtain ⟨v', e1, e2⟩ := hgs.2 _ v hv
        have := c3 (j - o) (by omega)
        rw [show o + (j - o) = j by omega] at this
        exact ⟨v', by rw [this]; exact e1, e2⟩
      · obtain ⟨v', e1, e2⟩ := hc j v hv
        exact ⟨v', by rw [c4 j (by omega)]; exact e1, e2⟩

/-! #### A store -/
def Row.put (R : Row) (o : Nat) (v : Value) : Option (Row × Prop) :=
  match R, v with
  | .ints k xs, .int k' y => if k = k' then some (.ints k (xs.set o y), o < xs.length) else none
  | .strs xs, .string s => some (.strs (xs.set o s), o < xs.length)
  | .vals vs, v => if isOne v then some (.vals (vs.set o v), o < vs.length) else none
  | _, _ => none

theorem set_spl {l : List Value} {o : Nat} {v : Value} (h : o < l.length) : l.set o v = spl l o [v] := by
  unfold spl
  rw [List.set_eq_take_append_cons_drop, if_pos h]
  simp

theorem Row.put_ok {R R' : Row} {o : Nat} {v : Value} {C : Prop} (h : R.put o v = some (R', C)) (hC : C) : R'.cells = spl R.cells o [v] ∧ o + 1 ≤ R.cells.length ∧ isOne v = true := by
  unfold Row.put at h
  split at h
  · split at h
    · rename_i hk; subst hk
      obtain ⟨rfl, rfl⟩ := some2 h
      refine ⟨?_, by simp [Row.cells]; omega, rfl⟩
      rw [← set_spl (by simpa [Row.cells] using hC)]
      simp [Row.cells, List.map_set]
    · simp at h
  · obtain ⟨rfl, rfl⟩ := some2 h
    refine ⟨?_, by simp [Row.cells]; omega, rfl⟩
    rw [← set_spl (by simpa [Row.cells] using hC)]
    simp [Row.cells, List.map_set]
  · split at h
    · rename_i ho
      obtain ⟨rfl, rfl⟩ := some2 h
      refine ⟨?_, by simp [Row.cells]; omega, ho⟩
      rw [← set_spl (by simpa [Row.cells] using hC)]
      simp [Row.cells]
    · simp at h
  · simp at h

def Row.putAgg (R : Row) (o : Nat) (cs : Array Value) (R' : Option Row) : Option (Row × Prop) :=
  match R, R' with
  | .vals vs, none => some (.vals (vs.take o ++ cs.toList ++ vs.drop (o + cs.size)), o + cs.size ≤ vs.length)
  | R, some R' => some (R', R'.cells = cs.toList ∧ o = 0 ∧ R'.len = R.len)
  | _, _ => none

theorem Row.putAgg_ok {R R' : Row} {o : Nat} {cs : Array Value} {h0 : Option Row} {C : Prop} (h : R.putAgg o cs h0 = some (R', C)) (hC : C) : R'.cells = spl R.cells o cs.toList ∧ o + cs.toList.length ≤ R.cells.length := by
  unfold Row.putAgg at h
  split at h
  · obtain ⟨rfl, rfl⟩ := some2 h
    exact ⟨by simp [Row.cells, spl], by simpa [Row.cells] using hC⟩
  · obtain ⟨rfl, rfl⟩ := some2 h
    obtain ⟨c1, rfl, c3⟩ := hC
    rw [← Row.len_eq, ← Row.len_eq, c1] at c3
    refine ⟨?_, by omega⟩
    rw [c1]
    unfold spl
    rw [List.drop_eq_nil_of_le (by omega)]
    simp
  · simp at h

def evStore (Θ : Types) (H : Heap) (t : TypeId) (hint : Option Row) : Value → Value → Option (Heap × Prop)
  | .pointer (some p), v =>
    match key? H p.block, Θ.siz t with
    | some B, some n =>
      if B.wr then
        match v with
        | .agg cs => match B.row.putAgg p.off cs hint with
          | some (R', C) => some (H.set p.block (some ⟨true, B.ty, R'⟩), C ∧ cs.size = n)
          | none => none
        | v => if n == 1 then match B.row.put p.off v with
            | some (R', C) => some (H.set p.block (some ⟨true, B.ty, R'⟩), C)
            | none => none
          else none
      else none
    | _, _ => none
  | _, _ => none

theorem hard_store {Θ : Types} (hΘ : Θ.Ok P) {H : Heap} (hR : Rel β H w) {o : Oper} {a : Act} {t : TypeId} {p : Addr} {op ov : Operand} {seg seg' : List Value} {B : Blk} {R' : Row} (ho : o.op = .store t op ov)
    (hp : V β (.pointer (some p)) (a.eval op)) (hcells : (a.eval ov).cells.toList = seg') (hseg : F2 (V1 β) seg seg') (hB : key? H p.block = some B) (hw : B.wr = true) (hn : Θ.siz t = some seg.length)
    (hfit : p.off + seg.length ≤ B.row.cells.length) (hR' : R'.cells = spl B.row.cells p.off seg) : Hard P o a β H w (H.set p.block (some ⟨true, B.ty, R'⟩)) undef := by
  obtain ⟨A, hA, hs, e⟩ := V_ptr.1 hp
  have hsp := hR.spot _ _ hA
  have hblk := (hR.blk _ _ _ (key?_ok hB) hA).2
  rw [if_pos hw] at hblk
  obtain ⟨N, hN, hown⟩ := hblk
  obtain ⟨ei, hei, e2⟩ := look_siz hn
  have hz := (hΘ.look hei).sizeOf w
  rw [e2] at hz
  have hlen := (forall2_get hseg).1
  have key := fun w' => own_stored (w' := w') hown hsp hseg hfit
  obtain ⟨cur, fr, hg, hf, hfit', -⟩ := key w
  have hone : ∀ v ∈ seg', v.oneCell' = true := by
    intro v hv
    obtain ⟨j, hj, rfl⟩ := List.mem_iff_getElem.1 hv
    obtain ⟨v', h1, h2⟩ := (forall2_get hseg).2 j _ (List.getElem?_eq_getElem (by omega))
    rw [List.getElem?_eq_getElem hj] at h1; cases h1
    exact V1_one h2
  obtain ⟨w', hrun, hst⟩ := storeCells_ok (P := P) A.addr.block p.off B.ty fr seg' 0 w cur hg hf (by omega) hone
  rw [Nat.add_zero] at hst
  have haddr : A.addr.add p.off = ⟨A.addr.block, p.off, none⟩ := by rw [add_none hsp, hown.off, Nat.zero_add]
  intro K Q hK
  have hex : (execOp a.eval o).run P w = .ok .skip w' := by
    have hsz2 : (a.eval ov).cells.size = seg.length := by rw [hlen, ← hcells]; simp
    have hcl : (a.eval ov).cells.toList = seg' := hcells
    unfold execOp
    simp [ho, e, haddr, Instr.storeAt, Instr.sureAddr, storeVar, hz, hsz2, hcl, hrun]
  unfold Oper.wp
  rw [hex]
  refine hK β undef w' ?_ ?_
  · exact V_tuple.2 ⟨_, rfl, .nil⟩
  · obtain ⟨cur2, fr2, hg2, _, _, hO⟩ := key w'
    rw [hg] at hg2
    cases hg2
    refine tr_write hR (key?_ok hB) hw hA hN hst.os hst.tape hst.output hst.size hst.other ?_
    rw [hR']
    exact hO hst

theorem evStore_ok {Θ : Types} (hΘ : Θ.Ok P) {H : Heap} (hR : Rel β H w) {o : Oper} {a : Act} {t : TypeId} {op ov : Operand} {vp v : Value} {hint : Option Row} {H' : Heap} {C : Prop} (ho : o.op = .store t op ov)
    (h : evStore Θ H t hint vp v = some (H', C)) (hC : C) (hp : V β vp (a.eval op)) (hv : V β v (a.eval ov)) : Hard P o a β H w H' undef := by
  unfold evStore at h
  split at h
  · rename_i p v
    split at h
    · rename_i B n hB hn
      split at h
      · rename_i hw
        split at h
        · rename_i cs
          split at h
          · rename_i R' C' hput
            obtain ⟨rfl, rfl⟩ := some2 h
            obtain ⟨c1, rfl⟩ := hC
            obtain ⟨p1, p2⟩ := Row.putAgg_ok hput c1
            obtain ⟨cs', e1, hf⟩ := V_agg.1 hv
            exact hard_store hΘ hR ho hp (seg := cs.toList) (seg' := cs'.toList) (by rw [e1]; rfl) hf hB hw (by simpa using hn) p2 p1
          · simp at h
        · rename_i hne
          split at h
          · rename_i hn1
            have hn1' : n = 1 := by simpa using hn1
            subst hn1'
            split at h
            · rename_i R' C' hput
              obtain ⟨rfl, rfl⟩ := some2 h
              obtain ⟨p1, p2, p3⟩ := Row.put_ok hput hC
              have hv1 := isOne_V1 p3 hv
              exact hard_store hΘ hR ho hp (seg := [_]) (seg' := [a.eval ov]) (by rw [V1_notagg hv1]) (.cons hv1 .nil) hB hw (by simpa using hn) (by simpa using p2) p1
            · simp at h
          · simp at h
      · simp at h
    · simp at h
  · simp at h

end
end Go.Proofs.Ytgkplkmjnpofkaa.Abs
