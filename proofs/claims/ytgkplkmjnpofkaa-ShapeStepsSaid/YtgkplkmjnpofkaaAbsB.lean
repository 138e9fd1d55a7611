/- An evaluator of the model's code on told values, proved sound, second part: append, calls, regions, the machine. -/
import Derived.Test.YtgkplkmjnpofkaaAbsA
import Derived.Scope
import Derived.Laws.Sem
import Derived.SliceStrings
import Derived.OrdersHeld
set_option linter.unusedVariables false
set_option linter.unusedSimpArgs false
set_option maxRecDepth 100000
namespace Go.Proofs.Ytgkplkmjnpofkaa.Abs
open Go Go.RowKit

section
variable {P : Program} {w : World} {β : Loc}

/-! ### 8. append -/
/-- What is appended: its cells. -/
inductive AppSrc (P : Program) (w : World) (e : TypeId) (z : Value) (t2 : TypeId) (x : Value) (m : Nat) (news : List Value) : Prop
  | cells (d : TypeDesc) (hu : P.underlying t2 = some d) (hd : ∀ k, d ≠ .int k) (hl : ∀ w', (Builtin.lenOf x).run P w' = .ok m w') (hf : ∀ w', w'.heap = w.heap → (Builtin.firstCells 1 m x).run P w' = .ok news.toArray w') : AppSrc P w e z t2 x m news
  | zeros (k k2 : IntKind) (hu : P.underlying t2 = some (.int k2)) (hx : x = .int k (m : Int)) (hn : news = List.replicate m z) (hm : (m : Int) ≤ 9223372036854775807) (hb : ∀ i, P.info? e = some i → m * i.bytes ≤ 140737488355328) : AppSrc P w e z t2 x m news

theorem zeroCells_one (z : Value) (n : Nat) : Builtin.zeroCells #[z] n = Array.replicate n z := by
  apply Array.ext
  · simp [Builtin.zeroCells]
  · intro i h1 h2
    simp [Builtin.zeroCells, Nat.mod_one]

section
variable {t ty e t2 : TypeId} {i : TypeInfo} {z zv x : Value} {sLen sCap m : Nat} {base : Option Addr} {news : List Value}

theorem run_append_room' (ht : P.underlying t = some (.slice e)) (hinf : P.info? e = some i) (hzv : i.zero = some zv) (hzc : zv.cells = #[z]) (hs : i.size = 1) (hsrc : AppSrc P w e z t2 x m news) (hm : news.length = m) (hroom : sLen + m ≤ sCap) {w2 : World}
    (hst : ∀ a, base = some a → (storeCells (a.add sLen) news).run P w = .ok () w2) (hn : base = none → w2 = w) :
    (Builtin.append_ #[t, t2] ty #[.slice base sLen sCap, x]).run P w = .ok (.slice base (sLen + m) sCap) w2 := by
  cases hsrc with
  | cells d hu hd hl hf =>
    have hf' := hf w rfl
    cases base with
    | none =>
      obtain rfl := hn rfl
      simp [Builtin.append_, run_underlying ht, run_underlying hu, sizeOf, typeInfo, hinf, hs, hl, hroom, hf']
      try (cases d <;> first | exact absurd rfl (hd _) | rfl)
    | some a =>
      have := hst a rfl
      simp [Builtin.append_, run_underlying ht, run_underlying hu, sizeOf, typeInfo, hinf, hs, hl, hroom, hf', this]
      try (cases d <;> first | exact absurd rfl (hd _) | rfl)
  | zeros k k2 hu hx hnn hmx hb =>
    subst hx
    have wl : IntKind.i64.wrap (m : Int) = m := wrap_in _ _ (by simp only [lo]; omega) (by simpa [hi] using hmx)
    have hb' := hb i hinf
    have n1 : ¬ ((281474976710656 : Int) < (m : Int) * (i.bytes : Int)) := by
      have : ((m * i.bytes : Nat) : Int) ≤ 281474976710656 := by omega
      rw [Int.natCast_mul] at this
      omega
    have n0 : ¬ ((m : Int) < 0) := by omega
    have w0 : IntKind.i64.wrap 0 = 0 := by decide
    have hzz : (zeroValue e).run P w = .ok zv w := by simp [zeroValue, typeInfo, hinf, hzv]
    by_cases hm0 : m = 0
    · subst hm0
      have hnews : news = [] := List.eq_nil_of_length_eq_zero hm
      subst hnews
      cases base with
      | none =>
        obtain rfl := hn rfl
        simp at hroom
        simp [Builtin.append_, run_underlying ht, run_underlying hu, sizeOf, typeInfo, hinf, hs, asInt, asIntOf, w0, hroom]
      | some a =>
        have := hst a rfl
        simp at hroom
        simp [Builtin.append_, run_underlying ht, run_underlying hu, sizeOf, typeInfo, hinf, hs, asInt, asIntOf, w0, hroom, this]
    · have hroom' : sLen + m ≤ sCap := hroom
      cases base with
      | none =>
        obtain rfl := hn rfl
        simp [Builtin.append_, run_underlying ht, run_underlying hu, sizeOf, typeInfo, hinf, hs, asInt, asIntOf, wl, n0, n1, hroom', hm0, hzz]
      | some a =>
        have := hst a rfl
        rw [hnn] at this
        simp [Builtin.append_, run_underlying ht, run_underlying hu, sizeOf, typeInfo, hinf, hs, asInt, asIntOf, wl, n0, n1, hroom', hm0, hzz, hzc, zeroCells_one, this]

theorem run_append_grow' (ht : P.underlying t = some (.slice e)) (hinf : P.info? e = some i) (hzv : i.zero = some zv) (hzc : zv.cells = #[z]) (hs : i.size = 1) (hsrc : AppSrc P w e z t2 x m news) (hm : news.length = m) {olds : List Value}
    (hold : ∀ w', w'.heap = w.heap → (Builtin.firstCells 1 sLen (.slice base sLen sCap)).run P w' = .ok olds.toArray w') (hcap : sLen ≤ sCap) (hg : sCap < sLen + m) (h63 : sLen + m ≤ 9223372036854775807) (hb : (sLen + m) * i.bytes ≤ 140737488355328) :
    (Builtin.append_ #[t, t2] ty #[.slice base sLen sCap, x]).run P w = .ok (.slice (some ⟨w.heap.size, 0, none⟩) (sLen + m) (grownCap w (sLen + m) sCap e))
      (w.drew.alloc (.cells (olds ++ news ++ List.replicate (grownCap w (sLen + m) sCap e - (sLen + m)) z).toArray e)) := by
  have hn : ¬ (sLen + m ≤ sCap) := by omega
  have h63' : ¬ (9223372036854775807 < ((sLen : Int) + (m : Int))) := by omega
  have hfit := growslice_fits hg hb
  have h48' : ¬ (281474976710656 < Builtin.nextslicecap (sLen + m) sCap * i.bytes) := by omega
  have hold' := hold w.drew rfl
  cases hsrc with
  | cells d hu hd hl hf =>
    have hf' := hf w.drew rfl
    simp [Builtin.append_, run_underlying ht, run_underlying hu, sizeOf, typeInfo, zeroValue, hinf, hzv, hs, hl, hn, h63', h48', Question.forced, hf', hold', newRow, grownCap]
    have key : ∀ n, (olds.toArray ++ (news.toArray ++ Array.replicate n z)) = (olds ++ (news ++ List.replicate n z)).toArray := by
      intro n; apply Array.toList_inj.1; simp
    cases d <;> first | exact absurd rfl (hd _) | (simp_all [zeroCells_one]; done) | (simp only [hzc, zeroCells_one, key])
  | zeros k k2 hu hx hnn hmx hbm =>
    subst hx
    have wl : IntKind.i64.wrap (m : Int) = m := wrap_in _ _ (by simp only [lo]; omega) (by simpa [hi] using hmx)
    have hb' := hbm i hinf
    have n1 : ¬ ((281474976710656 : Int) < (m : Int) * (i.bytes : Int)) := by
      have : ((m * i.bytes : Nat) : Int) ≤ 281474976710656 := by omega
      rw [Int.natCast_mul] at this
      omega
    have n0 : ¬ ((m : Int) < 0) := by omega
    have w0 : IntKind.i64.wrap 0 = 0 := by decide
    have hm0 : m ≠ 0 := by omega
    simp [Builtin.append_, run_underlying ht, run_underlying hu, sizeOf, typeInfo, zeroValue, hinf, hzv, hs, asInt, asIntOf, wl, n0, n1, hn, h63', h48', hm0, Question.forced, hold', newRow, grownCap, hzc, zeroCells_one, hnn]
    congr 2
    apply Array.toList_inj.1
    simp
end

end
end Go.Proofs.Ytgkplkmjnpofkaa.Abs
namespace Go.Proofs.Ytgkplkmjnpofkaa.Abs
open Go Go.RowKit

section
variable {P : Program} {w : World} {β : Loc}

def kill (H : Heap) : Option Nat → Heap
  | none => H
  | some κ => H.set κ none

theorem kill_get {H : Heap} {κo : Option Nat} {κ : Nat} {B : Blk} (h : (kill H κo)[κ]? = some (some B)) : H[κ]? = some (some B) ∧ κo ≠ some κ := by
  cases κo with
  | none => exact ⟨h, by simp⟩
  | some k =>
    simp only [kill] at h
    rw [List.getElem?_set] at h
    split at h
    · split at h <;> simp at h
    · rename_i hne; exact ⟨h, fun e => hne (Option.some.inj e)⟩

theorem kill_len (H : Heap) (κo : Option Nat) : (kill H κo).length = H.length := by cases κo <;> simp [kill]

/-- A new key, in the place of one that is told no more. -/
theorem tr_key {H : Heap} (hR : Rel β H w) (κo : Option Nat) {B' : Blk} {A' : Place} {w' : World} (hos : w'.os = w.os) (htape : w'.tape = w.tape) (hout : w'.output = w.output) (hsz : w.heap.size ≤ w'.heap.size)
    (hsp : A'.addr.spot = none) (hoth : ∀ b, b < w.heap.size → b ≠ A'.addr.block → w'.heap[b]? = w.heap[b]?)
    (hwhere : w.heap.size ≤ A'.addr.block ∨ ∃ κ B A, κo = some κ ∧ H[κ]? = some (some B) ∧ B.wr = true ∧ β κ = some A ∧ A.addr.block = A'.addr.block)
    (hnew : ∀ β', β.le β' → β' H.length = some A' → BlkAt β' w' A' B') (hw : B'.wr = true) :
    ∃ β', β.le β' ∧ β' H.length = some A' ∧ Tr β H w β' (kill H κo ++ [some B']) w' := by
  let β' : Loc := fun κ => if κ = H.length then some A' else β κ
  have hle : β.le β' := by
    intro κ A hA
    by_cases e : κ = H.length
    · subst e; rw [hR.dom _ (Nat.le_refl _)] at hA; cases hA
    · simp only [β', if_neg e]; exact hA
  have hself : β' H.length = some A' := by simp [β']
  have hold : ∀ κ, κ ≠ H.length → β' κ = β κ := fun κ e => by simp only [β', if_neg e]
  have hlt : ∀ {κ : Nat} {x : Option Blk}, H[κ]? = some x → κ < H.length := fun h => (List.getElem?_eq_some_iff.1 h).1
  have hget : ∀ {κ : Nat} {B : Blk}, (kill H κo ++ [some B'])[κ]? = some (some B) → (H[κ]? = some (some B) ∧ κo ≠ some κ) ∨ (κ = H.length ∧ B = B') := by
    intro κ B h
    rw [List.getElem?_append] at h
    split at h
    · exact .inl (kill_get h)
    · rename_i hge
      rw [kill_len] at hge h
      have : κ = H.length := by
        rcases Nat.lt_trichotomy κ H.length with h1 | h1 | h1
        · omega
        · exact h1
        · rw [List.getElem?_eq_none (by simp; omega)] at h; cases h
      subst this
      simp at h
      exact .inr ⟨rfl, h.symm⟩
  -- a living block is not where the new one is
  have hapart : ∀ {κ : Nat} {B : Blk} {a : Place}, H[κ]? = some (some B) → κo ≠ some κ → β κ = some a → (B.wr = true ∨ B.row.cells ≠ []) → a.addr.block ≠ A'.addr.block := by
    intro κ B a e1 e2 e3 hn
    rcases hwhere with hge | ⟨κ0, B0, A0, rfl, f1, f2, f3, f4⟩
    · have := (hR.blk κ B a e1 e3).lt hn; omega
    · rw [← f4]
      exact (hR.sep κ0 κ B0 B A0 a f1 e1 f3 e3 (fun e => e2 (by rw [e])) f2 hn).symm
  refine ⟨β', hle, hself, hle, by simp [kill_len], fun κ A hκ e => by rwa [hold κ (by omega)] at e, ⟨⟨?_, ?_, ?_⟩, ?_, ?_⟩, hos, htape, hout, hsz, ?_, ?_⟩
  · intro κ B a e1 e2
    rcases hget e1 with ⟨f1, f2⟩ | ⟨rfl, rfl⟩
    · have hk := hlt f1
      rw [hold κ (by omega)] at e2
      refine (hR.blk κ B a f1 e2).keep hle fun hn => hoth _ ((hR.blk κ B a f1 e2).lt hn) (hapart f1 f2 e2 hn)
    · rw [hself] at e2; cases e2
      exact hnew β' hle hself
  · intro κ1 κ2 B1 B2 a1 a2 e1 e2 e3 e4 hne hw1 hn
    rcases hget e1 with ⟨f1, g1⟩ | ⟨k1, rfl⟩ <;> rcases hget e2 with ⟨f2, g2⟩ | ⟨k2, rfl⟩
    · rw [hold _ (by have := hlt f1; omega)] at e3
      rw [hold _ (by have := hlt f2; omega)] at e4
      exact hR.sep _ _ _ _ _ _ f1 f2 e3 e4 hne hw1 hn
    · rw [hold _ (by have := hlt f1; omega)] at e3
      rw [k2, hself] at e4; cases e4
      exact hapart f1 g1 e3 (.inl hw1)
    · rw [hold _ (by have := hlt f2; omega)] at e4
      rw [k1, hself] at e3; cases e3
      exact (hapart f2 g2 e4 hn).symm
    · exact absurd (k1.trans k2.symm) hne
  · intro κ a e
    by_cases hk : κ = H.length
    · rw [hk, hself] at e; cases e; exact hsp
    · rw [hold κ hk] at e; exact hR.spot κ a e
  · intro κ hκ
    simp [kill_len] at hκ
    rw [hold κ (by omega)]
    exact hR.dom κ (by omega)
  · intro κ B g e1 e2 e3
    rcases hget e1 with ⟨f1, _⟩ | ⟨_, rfl⟩
    · exact hle _ _ (hR.glob κ B g f1 e2 e3)
    · rw [hw] at e2; cases e2
  · intro b hb hm
    refine hoth b hb fun e => ?_
    rcases hwhere with hge | ⟨κ0, B0, A0, rfl, f1, f2, f3, f4⟩
    · omega
    · exact hm κ0 B0 A0 f1 f2 f3 (by rw [f4, e])
  · intro κ B A e1 e2 e3
    rcases hget e1 with ⟨f1, f2⟩ | ⟨rfl, rfl⟩
    · rw [hold κ (by have := hlt f1; omega)] at e3
      exact .inr ⟨κ, B, A, f1, e2, e3, rfl⟩
    · rw [hself] at e3; cases e3
      rcases hwhere with hge | ⟨κ0, B0, A0, rfl, f1, f3, f4, f5⟩
      · exact .inl hge
      · exact .inr ⟨κ0, B0, A0, f1, f3, f4, f5⟩

/-- A new key that lies nowhere (an empty slice that is nil). -/
theorem tr_nokey {H : Heap} (hR : Rel β H w) (B' : Blk) (hw : B'.wr = true := by rfl) : Tr β H w β (H ++ [some B']) w := by
  have hlt : ∀ {κ : Nat} {x : Option Blk}, H[κ]? = some x → κ < H.length := fun h => (List.getElem?_eq_some_iff.1 h).1
  have hget : ∀ {κ : Nat} {B : Blk} {a : Place}, (H ++ [some B'])[κ]? = some (some B) → β κ = some a → H[κ]? = some (some B) := by
    intro κ B a h e
    rw [List.getElem?_append] at h
    split at h
    · exact h
    · rename_i hge
      rw [hR.dom κ (by omega)] at e; cases e
  exact ⟨Loc.le_refl _, by simp, fun _ _ _ h => h, ⟨⟨fun κ B a e1 e2 => hR.blk κ B a (hget e1 e2) e2, fun κ κ' B B2 a a' e1 e2 e3 e4 hne hw hn => hR.sep κ κ' B B2 a a' (hget e1 e3) (hget e2 e4) e3 e4 hne hw hn, hR.spot⟩, fun κ hκ => hR.dom κ (by simp at hκ; omega), fun κ B g e1 e2 e3 => by
      rw [List.getElem?_append] at e1
      split at e1
      · exact hR.glob κ B g e1 e2 e3
      · have : B = B' := by
          rename_i hge
          rcases Nat.lt_trichotomy κ H.length with h1 | h1 | h1
          · omega
          · subst h1; simp at e1; exact e1.symm
          · rw [List.getElem?_eq_none (by simp; omega)] at e1; cases e1
        rw [this, hw] at e2; cases e2⟩,
    rfl, rfl, rfl, Nat.le_refl _, fun _ _ _ => rfl, fun κ B A e1 e2 e3 => .inr ⟨κ, B, A, hget e1 e3, e2, e3, rfl⟩⟩

def joinR : Row → Row → Row
  | .ints k xs, .ints k' ys => if k = k' then .ints k (xs ++ ys) else .vals (xs.map (.int k) ++ ys.map (.int k'))
  | .strs xs, .strs ys => .strs (xs ++ ys)
  | R, R' => .vals (R.cells ++ R'.cells)
theorem joinR_cells (R R' : Row) : (joinR R R').cells = R.cells ++ R'.cells := by
  unfold joinR
  split
  · split
    · rename_i h; subst h; simp [Row.cells]
    · simp [Row.cells]
  · simp [Row.cells]
  · simp [Row.cells]

def evSrc (Θ : Types) (H : Heap) (ei : TI) (t2 : TypeId) : Value → Option (Row × Nat × Prop)
  | .slice (some p) m _ => match Θ.tv t2, key? H p.block with
    | some (.slice _), some B => some (sub B.row p.off m, m, p.off + m ≤ B.row.len)
    | _, _ => none
  | .slice none _ _ => match Θ.tv t2 with
    | some (.slice _) => some (typed ei.tv [], 0, True)
    | _ => none
  | .string s => match Θ.tv t2 with
    | some .str => some (.ints .u8 (bytesOf s), s.size, True)
    | _ => none
  | .int _ l => match Θ.tv t2 with
    | some (.int _) => (rep ei.zrow l.toNat).map fun R => (R, l.toNat, 0 ≤ l ∧ l ≤ 9223372036854775807 ∧ l * ei.bytes ≤ 140737488355328)
    | _ => none
  | _ => none

theorem evSrc_ok {Θ : Types} (hΘ : Θ.Ok P) {H : Heap} (hR : RelB β H w) {e t2 : TypeId} {ei : TI} {x x' : Value} {R : Row} {m : Nat} {C : Prop} {z : Value} (h : evSrc Θ H ei t2 x = some (R, m, C)) (hC : C) (hx : V β x x') (hei : Θ.look e = some ei)
    (hz : ei.zrow.cells = [z]) (hfz : Flat1 z = true) : ∃ news, AppSrc P w e z t2 x' m news ∧ news.length = m ∧ F2 (V1 β) R.cells news := by
  obtain ⟨i, zv', hinf, _, hb, _, _⟩ := (hΘ.look hei).info
  unfold evSrc at h
  split at h
  · rename_i p m' c
    split at h
    · rename_i e2 B htv hB
      simp only [Option.some.injEq, Prod.mk.injEq] at h
      obtain ⟨rfl, rfl, rfl⟩ := h
      obtain ⟨ti, hti, e1⟩ := look_tv htv
      have hu := (hΘ.look hti).slice e1
      obtain ⟨hs, hv⟩ := V_slice.1 hx
      rcases hv with ⟨rfl, rfl⟩ | ⟨A, hA, A', c', rfl, hc, ha, hN⟩
      · refine ⟨[], .cells _ hu (fun k => by simp) (fun w' => by simp [Builtin.lenOf]) (fun w' _ => by simp [Builtin.firstCells]), rfl, ?_⟩
        rw [sub_cells]; simp; exact .nil
      · have hsp := hR.spot _ _ hA
        have hblk := (hR.blk _ _ _ (key?_ok hB) hA).readable
        by_cases hm : 0 < m'
        · obtain rfl := ha (.inl hm)
          obtain ⟨cs', l1, l2⟩ := loadCells_ok (P := P) hblk hsp p.off m' (by rw [Row.len_eq]; exact hC)
          have hlen : cs'.toList.length = m' := by
            have := (forall2_get l2).1
            simp at this ⊢
            rw [Row.len_eq] at this
            omega
          refine ⟨cs'.toList, .cells _ hu (fun k => by simp) (fun w' => by simp [Builtin.lenOf]) (fun w' hw' => ?_), hlen, by rw [sub_cells]; exact l2⟩
          have hblk' : Readable β w' A.addr B.row.cells := fun j v hj => by
            obtain ⟨v', h1, h2⟩ := hblk j v hj
            exact ⟨v', by simpa [World.cell?, hw'] using h1, h2⟩
          obtain ⟨cs2, l1', l2'⟩ := loadCells_ok (P := P) hblk' hsp p.off m' (by rw [Row.len_eq]; exact hC)
          have hsame : cs2 = cs' := by
            have e : ∀ (n i : Nat) (acc : Array Value) (a : Addr) (r1 r2 : Array Value), (loadCellsFrom a i n acc).run P w = .ok r1 w → (loadCellsFrom a i n acc).run P w' = .ok r2 w' → r1 = r2 := by
              intro n
              induction n with
              | zero => intro i acc a r1 r2 h1 h2; simp [loadCellsFrom] at h1 h2; rw [← h1, ← h2]
              | succ n ih =>
                intro i acc a r1 r2 h1 h2
                simp only [loadCellsFrom, Sem.run_bind, run_load] at h1 h2
                have hce : w'.cell? (a.add i) = w.cell? (a.add i) := by simp [World.cell?, hw']
                rw [hce] at h2
                cases hc : w.cell? (a.add i) with
                | none =>
                  rw [hc] at h1
                  simp only at h1
                  cases hfl : w.farLoad P (a.add i) (Mode.plain == Mode.atomic) with
                  | error er => rw [hfl] at h1; simp [Result.andThen] at h1
                  | ok v => 
                    rw [hc] at h2
                    have hfe : w'.farLoad P (a.add i) (Mode.plain == Mode.atomic) = w.farLoad P (a.add i) (Mode.plain == Mode.atomic) := by
                      simp only [World.farLoad, World.viewLoad, World.seen, World.noCell, hw']
                    rw [hfe] at h2
                    rw [hfl] at h1 h2
                    simp only [Result.andThen] at h1 h2
                    exact ih _ _ _ _ _ h1 h2
                | some v =>
                  rw [hc] at h1 h2
                  simp only [Result.andThen] at h1 h2
                  exact ih _ _ _ _ _ h1 h2
            exact (e m' 0 #[] _ _ _ l1 l1').symm
          rw [hsame] at l1'
          simp [Builtin.firstCells, l1']
        · have : m' = 0 := by omega
          subst this
          refine ⟨[], .cells _ hu (fun k => by simp) (fun w' => by simp [Builtin.lenOf]) (fun w' _ => by simp [Builtin.firstCells, loadCells, loadCellsFrom]), rfl, ?_⟩
          rw [sub_cells]; simp; exact .nil
    · simp at h
  · split at h
    · rename_i n c e2 htv
      simp only [Option.some.injEq, Prod.mk.injEq] at h
      obtain ⟨rfl, rfl, rfl⟩ := h
      obtain ⟨ti, hti, e1⟩ := look_tv htv
      have hu := (hΘ.look hti).slice e1
      obtain ⟨-, -, rfl⟩ := V_nilslice.1 hx
      exact ⟨[], .cells _ hu (fun k => by simp) (fun w' => by simp [Builtin.lenOf]) (fun w' _ => by simp [Builtin.firstCells]), rfl, by rw [typed_cells]; exact .nil⟩
    · simp at h
  · rename_i s
    split at h
    · rename_i htv
      simp only [Option.some.injEq, Prod.mk.injEq] at h
      obtain ⟨rfl, rfl, rfl⟩ := h
      obtain ⟨ti, hti, e1⟩ := look_tv htv
      have hu := (hΘ.look hti).str e1
      obtain rfl := V_string.1 hx
      refine ⟨(bytesOf s).map (.int .u8), .cells _ hu (fun k => by simp) (fun w' => by simp [Builtin.lenOf]) (fun w' _ => ?_), ?_, by simp only [Row.cells]; exact forall2_flat_mk (by simp [Flat1])⟩
      · have hx : (Array.map (fun b : UInt8 => Value.int IntKind.u8 (b.toNat : Int)) s.data).extract 0 s.size = Array.map (fun b : UInt8 => Value.int IntKind.u8 (b.toNat : Int)) s.data := by
          have hs : s.size = (Array.map (fun b : UInt8 => Value.int IntKind.u8 (b.toNat : Int)) s.data).size := by rw [Array.size_map]; rfl
          rw [hs, Array.extract_size]
        simp [Builtin.firstCells, hx, bytesOf]
        apply Array.toList_inj.1
        simp
      · simp [bytesOf]
    · simp at h
  · rename_i k l
    split at h
    · rename_i k2 htv
      cases hr : rep ei.zrow l.toNat with
      | none => simp [hr] at h
      | some R' =>
        simp only [hr, Option.map_some, Option.some.injEq, Prod.mk.injEq] at h
        obtain ⟨rfl, rfl, rfl⟩ := h
        obtain ⟨c1, c2, c3⟩ := hC
        obtain ⟨ti, hti, e1⟩ := look_tv htv
        have hu := (hΘ.look hti).int e1
        obtain rfl := V_int.1 hx
        obtain ⟨z', hz1, hz2, hz3⟩ := rep_cells hr
        rw [hz] at hz1; cases hz1
        refine ⟨List.replicate l.toNat z, .zeros k k2 hu (by rw [Int.toNat_of_nonneg c1]) rfl (by omega) (fun i' hi' => ?_), by simp, by rw [hz3]; exact forall2_flat_mk (by intro v hv; rw [List.eq_of_mem_replicate hv]; exact hfz)⟩
        rw [hinf] at hi'; cases hi'
        rw [hb]
        have : ((l.toNat * ei.bytes : Nat) : Int) = l * ei.bytes := by rw [Int.natCast_mul, Int.toNat_of_nonneg c1]
        omega
    · simp at h
  · simp at h

end
end Go.Proofs.Ytgkplkmjnpofkaa.Abs
namespace Go.Proofs.Ytgkplkmjnpofkaa.Abs
open Go Go.RowKit

section
variable {P : Program} {w : World} {β : Loc}

theorem Own.more {A : Addr} {N : Nat} {ty : TypeId} {cells seg seg' : List Value} {w' : World} (hA : Own β w A N ty cells) (hs : A.spot = none) (hseg : F2 (V1 β) seg seg') (hfit : cells.length + seg.length ≤ N) :
    ∃ cur fr, w.heap[A.block]? = some (.cells cur ty fr) ∧ (∀ j : Nat, j < cur.size → ¬ (fr.1 ≤ j ∧ j < fr.2)) ∧ cells.length + seg'.length ≤ cur.size ∧ (Stored w w' A.block ty fr cur cells.length seg' → Own β w' A N ty (cells ++ seg)) := by
  obtain ⟨h0, cur, fr, hg, hN, hf, hl, hc⟩ := hA
  have hgs := forall2_get hseg
  refine ⟨cur, fr, hg, by rw [hN]; exact hf, by omega, ?_⟩
  rintro ⟨⟨cur', c1, c2, c3, c4⟩, -, -, -, -, -⟩
  refine ⟨h0, cur', fr, c1, by omega, hf, by simpa using hfit, fun j v hv => ?_⟩
  rw [List.getElem?_append] at hv
  split at hv
  · rename_i hj
    obtain ⟨v', e1, e2⟩ := hc j v hv
    exact ⟨v', by rw [c4 j (.inl hj)]; exact e1, e2⟩
  · rename_i hj
    have hlt : j - cells.length < seg.length := (List.getElem?_eq_some_iff.1 hv).1
    obtain ⟨v', e1, e2⟩ := hgs.2 _ v hv
    have := c3 (j - cells.length) (by omega)
    rw [show cells.length + (j - cells.length) = j by omega] at this
    exact ⟨v', by rw [this]; exact e1, e2⟩

def evAppend (Θ : Types) (H : Heap) : List TypeId → List Value → Option (Value × Heap × Prop)
  | [t, t2], [s, x] =>
    match Θ.tv t with
    | some (.slice e) => match Θ.look e with
      | some ei => match ei.zrow.cells with
        | [z] => if Flat1 z && ei.size == 1 then
            match evSrc Θ H ei t2 x with
            | some (R, m, C) =>
              match s with
              | .slice none _ _ => some (.slice (some ⟨H.length, 0, none⟩) m 0, H ++ [some ⟨true, e, joinR (typed ei.tv []) R⟩], C ∧ m ≤ 9223372036854775807 ∧ m * ei.bytes ≤ 140737488355328)
              | .slice (some p) n _ => match key? H p.block with
                | some B => if B.wr && B.ty == e then
                    some (.slice (some ⟨H.length, 0, none⟩) (n + m) 0, kill H (some p.block) ++ [some ⟨true, e, joinR B.row R⟩], C ∧ p.off = 0 ∧ n = B.row.len ∧ n + m ≤ 9223372036854775807 ∧ (n + m) * ei.bytes ≤ 140737488355328)
                  else none
                | none => none
              | _ => none
            | none => none
          else none
        | _ => none
      | none => none
    | _ => none
  | _, _ => none

theorem firstCells_own {A : Addr} {N : Nat} {ty : TypeId} {cells : List Value} (h : Own β w A N ty cells) (hs : A.spot = none) (c : Nat) :
    ∃ olds, olds.length = cells.length ∧ F2 (V1 β) cells olds ∧ ∀ w' : World, w'.heap = w.heap → (Builtin.firstCells 1 cells.length (.slice (some A) cells.length c)).run P w' = .ok olds.toArray w' := by
  obtain ⟨h0, cur, fr, hg, hN, hf, hl, hc⟩ := h
  refine ⟨cur.toList.take cells.length, by simp; omega, forall2_of_get (by simp; omega) (fun i v hv => ?_), fun w' hw' => ?_⟩
  · obtain ⟨v', h1, h2⟩ := hc i v hv
    have hi : i < cells.length := (List.getElem?_eq_some_iff.1 hv).1
    exact ⟨v', by rw [List.getElem?_take, if_pos hi]; simpa using h1, h2⟩
  · have := run_loadCells_list (P := P) w' A (cur.toList.take cells.length) (fun j v hv => by
      rw [add_none hs, h0, Nat.zero_add]
      have hj : j < cells.length := by
        rcases Nat.lt_or_ge j cells.length with h | h
        · exact h
        · rw [List.getElem?_eq_none (by simp; omega)] at hv; cases hv
      rw [List.getElem?_take, if_pos hj] at hv
      simp [World.cell?, hw', hg]
      simpa using hv)
    have hlen : (cur.toList.take cells.length).length = cells.length := by simp; omega
    rw [hlen] at this
    simp [Builtin.firstCells, this]

theorem own_grown {g : Nat} {A0 : World} {cells news olds : List Value} {R R0 R1 : Row} {e : TypeId} {z : Value} {n N : Nat} {β' : Loc} (hle : β.le β') (h1 : F2 (V1 β) R0.cells olds) (h2 : F2 (V1 β) R1.cells news) (hg : A0.heap[g]? = some (.cells (olds ++ news ++ List.replicate n z).toArray e (0, 0)))
    (hN : olds.length + news.length + n = N) : Own β' A0 ⟨g, 0, none⟩ N e (joinR R0 R1).cells := by
  have g1 := forall2_get h1
  have g2 := forall2_get h2
  rw [joinR_cells]
  refine ⟨rfl, _, _, hg, by simpa [Nat.add_assoc] using hN, fun j _ h => by simp at h, by simp; omega, fun j v hv => ?_⟩
  rw [List.getElem?_append] at hv
  split at hv
  · rename_i hj
    obtain ⟨v', e1, e2⟩ := g1.2 j v hv
    refine ⟨v', ?_, V1.mono hle e2⟩
    rw [List.append_assoc, List.getElem?_toArray, List.getElem?_append_left (by omega)]
    exact e1
  · rename_i hj
    obtain ⟨v', e1, e2⟩ := g2.2 _ v hv
    refine ⟨v', ?_, V1.mono hle e2⟩
    have hlt := (List.getElem?_eq_some_iff.1 e1).1
    rw [List.append_assoc, List.getElem?_toArray, List.getElem?_append_right (by omega), List.getElem?_append_left (by omega)]
    rw [g1.1] at e1
    exact e1

theorem evAppend_ok {Θ : Types} (hΘ : Θ.Ok P) {H : Heap} (hR : Rel β H w) {ts : List TypeId} {vs vs' : List Value} {ty : TypeId} {v : Value} {H' : Heap} {C : Prop} (h : evAppend Θ H ts vs = some (v, H', C)) (hC : C) (hv : F2 (V β) vs vs') :
    ∃ β' v' w', (Builtin.append_ ts.toArray ty vs'.toArray).run P w = .ok v' w' ∧ V β' v v' ∧ Tr β H w β' H' w' := by
  unfold evAppend at h
  split at h
  · rename_i t t2 s x
    cases hv with
    | cons hs hv =>
      rename_i s' l'
      cases hv with
      | cons hx hv =>
        rename_i x' l''
        cases hv
        split at h
        · rename_i e htv
          split at h
          · rename_i ei hei
            split at h
            · rename_i z hz
              split at h
              · rename_i hc
                simp only [Bool.and_eq_true, beq_iff_eq] at hc
                obtain ⟨hfz, hs1⟩ := hc
                obtain ⟨ti, hti, e1⟩ := look_tv htv
                have hu := (hΘ.look hti).slice e1
                obtain ⟨i, zv, hinf, his, hib, hzz, hcells⟩ := (hΘ.look hei).info
                rw [hs1] at his
                have hzc : zv.cells = #[z] := by
                  rw [hz] at hcells
                  exact Array.toList_inj.1 (by simpa using hcells)
                split at h
                · rename_i R m C0 hsrc
                  -- a nil slice
                  have nilcase : ∀ {R0 : Row} {κo : Option Nat}, R0.cells = [] → C0 → m ≤ 9223372036854775807 → m * ei.bytes ≤ 140737488355328 →
                      ∃ β' v' w', (Builtin.append_ #[t, t2] ty #[.slice none 0 0, x']).run P w = .ok v' w' ∧ V β' (.slice (some ⟨H.length, 0, none⟩) m 0) v' ∧ ∀ (hk : κo = none ∨ True), Tr β H w β' (H ++ [some ⟨true, e, joinR R0 R⟩]) w' := by
                    intro R0 κo hR0 c0 c1 c2
                    obtain ⟨news, hap, hlen, hf⟩ := evSrc_ok hΘ hR.toRelB hsrc c0 hx hei hz hfz
                    by_cases hm : m = 0
                    · subst hm
                      have hr := run_append_room' (P := P) (w := w) (ty := ty) (base := none) (sLen := 0) (sCap := 0) hu hinf hzz hzc his hap hlen (Nat.le_refl _) (w2 := w) (fun a e => by cases e) (fun _ => rfl)
                      exact ⟨β, _, w, hr, V_slice.2 ⟨rfl, .inl ⟨rfl, rfl⟩⟩, fun _ => tr_nokey hR _⟩
                    · have hr := run_append_grow' (P := P) (w := w) (ty := ty) (base := none) (sLen := 0) (sCap := 0) (olds := []) hu hinf hzz hzc his hap hlen (fun w' _ => by simp [Builtin.firstCells]) (Nat.le_refl _) (by omega) (by omega) (by rw [hib]; simpa using c2)
                      rw [Nat.zero_add] at hr
                      have hcap := grownCap_ge w m 0 e
                      have hown := fun β' (hle : β.le β') => own_grown (A0 := w.drew.alloc (.cells ([] ++ news ++ List.replicate (grownCap w m 0 e - m) z).toArray e)) (cells := []) (R := R) (R0 := R0) (R1 := R) (g := w.heap.size) (N := grownCap w m 0 e) (β := β) hle (by rw [hR0]; exact .nil) hf (alloc_at w.drew _) (by simp [hlen]; omega)
                      obtain ⟨β', b1, b2, b3⟩ := tr_key hR none (B' := ⟨true, e, joinR R0 R⟩) (A' := ⟨⟨w.heap.size, 0, none⟩, some (grownCap w m 0 e)⟩) (w' := w.drew.alloc (.cells ([] ++ news ++ List.replicate (grownCap w m 0 e - m) z).toArray e)) rfl rfl rfl (by rw [alloc_size]; exact Nat.le_succ _) rfl (fun b hb _ => Below.heap_alloc w.drew _ b hb) (.inl (Nat.le_refl _))
                        (fun β' hle hk => ⟨rfl, by rw [if_pos rfl]; exact ⟨_, rfl, hown β' hle⟩⟩) rfl
                      exact ⟨β', _, _, hr, V_slice.2 ⟨rfl, .inr ⟨_, b2, _, _, rfl, hcap, fun _ => rfl, fun N hN => by simp at hN; subst hN; simp⟩⟩, fun _ => b3⟩
                  split at h
                  · simp only [Option.some.injEq, Prod.mk.injEq] at h
                    obtain ⟨rfl, rfl, rfl⟩ := h
                    obtain ⟨c0, c1, c2⟩ := hC
                    obtain ⟨-, -, rfl⟩ := V_nilslice.1 hs
                    obtain ⟨β', v', w', r1, r2, r3⟩ := nilcase (κo := none) (R0 := typed ei.tv []) (by rw [typed_cells]) c0 c1 c2
                    exact ⟨β', v', w', r1, r2, r3 (.inl rfl)⟩
                  · rename_i p n c
                    split at h
                    · rename_i B hB
                      split at h
                      · rename_i hbw
                        simp only [Bool.and_eq_true, beq_iff_eq] at hbw
                        obtain ⟨hw, hbt⟩ := hbw
                        simp only [Option.some.injEq, Prod.mk.injEq] at h
                        obtain ⟨rfl, rfl, rfl⟩ := h
                        obtain ⟨c0, c1, c2, c3, c4⟩ := hC
                        have hnl : n = B.row.cells.length := by rw [Row.len_eq]; exact c2
                        obtain ⟨news, hap, hlen, hf⟩ := evSrc_ok hΘ hR.toRelB hsrc c0 hx hei hz hfz
                        obtain ⟨hsp0, hvs⟩ := V_slice.1 hs
                        have hBk := key?_ok hB
                        rcases hvs with ⟨hn0, rfl⟩ | ⟨A, hA, A', c', rfl, hcn, ha, hN⟩
                        · -- told as a row, and nil
                          have hR0 : B.row.cells = [] := List.eq_nil_of_length_eq_zero (by omega)
                          by_cases hm : m = 0
                          · subst hm
                            have hr := run_append_room' (P := P) (w := w) (ty := ty) (base := none) (sLen := 0) (sCap := 0) hu hinf hzz hzc his hap hlen (Nat.le_refl _) (w2 := w) (fun a e => by cases e) (fun _ => rfl)
                            refine ⟨β, _, w, hr, V_slice.2 ⟨rfl, .inl ⟨by omega, rfl⟩⟩, ?_⟩
                            -- the old key may lie somewhere: it is told no more
                            have t1 := tr_nokey hR (⟨true, e, joinR B.row R⟩ : Blk)
                            refine Tr.trans t1 ?_
                            have hR1 := t1.rel
                            refine ⟨Loc.le_refl _, by simp [kill_len], fun _ _ _ h => h, ⟨⟨?_, ?_, hR1.spot⟩, ?_, ?_⟩, rfl, rfl, rfl, Nat.le_refl _, fun _ _ _ => rfl, ?_⟩
                            · intro κ B2 a q1 q2
                              refine hR1.blk κ B2 a ?_ q2
                              rw [List.getElem?_append] at q1 ⊢
                              rw [kill_len] at q1
                              split at q1
                              · rename_i hl; rw [if_pos hl]; exact (kill_get q1).1
                              · rename_i hl; rw [if_neg hl]; exact q1
                            · intro κ κ' B2 B3 a a' q1 q2 q3 q4
                              refine hR1.sep κ κ' B2 B3 a a' ?_ ?_ q3 q4
                              · rw [List.getElem?_append] at q1 ⊢
                                rw [kill_len] at q1
                                split at q1
                                · rename_i hl; rw [if_pos hl]; exact (kill_get q1).1
                                · rename_i hl; rw [if_neg hl]; exact q1
                              · rw [List.getElem?_append] at q2 ⊢
                                rw [kill_len] at q2
                                split at q2
                                · rename_i hl; rw [if_pos hl]; exact (kill_get q2).1
                                · rename_i hl; rw [if_neg hl]; exact q2
                            · intro κ hκ
                              exact hR1.dom κ (by simp [kill_len] at hκ ⊢; omega)
                            · intro κ B2 g q1 q2 q3
                              refine hR1.glob κ B2 g ?_ q2 q3
                              rw [List.getElem?_append] at q1 ⊢
                              rw [kill_len] at q1
                              split at q1
                              · rename_i hl; rw [if_pos hl]; exact (kill_get q1).1
                              · rename_i hl; rw [if_neg hl]; exact q1
                            · intro κ B2 A q1 q2 q3
                              refine .inr ⟨κ, B2, A, ?_, q2, q3, rfl⟩
                              rw [List.getElem?_append] at q1 ⊢
                              rw [kill_len] at q1
                              split at q1
                              · rename_i hl; rw [if_pos hl]; exact (kill_get q1).1
                              · rename_i hl; rw [if_neg hl]; exact q1
                          · have hr := run_append_grow' (P := P) (w := w) (ty := ty) (base := none) (sLen := 0) (sCap := 0) (olds := []) hu hinf hzz hzc his hap hlen (fun w' _ => by simp [Builtin.firstCells]) (Nat.le_refl _) (by omega) (by omega) (by rw [hib]; rw [hn0] at c4; exact c4)
                            rw [Nat.zero_add] at hr
                            have hcap := grownCap_ge w m 0 e
                            have hown := fun β' (hle : β.le β') => own_grown (A0 := w.drew.alloc (.cells ([] ++ news ++ List.replicate (grownCap w m 0 e - m) z).toArray e)) (cells := []) (R := R) (R0 := B.row) (R1 := R) (g := w.heap.size) (N := grownCap w m 0 e) (β := β) hle (by rw [hR0]; exact .nil) hf (alloc_at w.drew _) (by simp [hlen]; omega)
                            obtain ⟨β', b1, b2, b3⟩ := tr_key hR (some p.block) (B' := ⟨true, e, joinR B.row R⟩) (A' := ⟨⟨w.heap.size, 0, none⟩, some (grownCap w m 0 e)⟩) (w' := w.drew.alloc (.cells ([] ++ news ++ List.replicate (grownCap w m 0 e - m) z).toArray e)) rfl rfl rfl (by rw [alloc_size]; exact Nat.le_succ _) rfl (fun b hb _ => Below.heap_alloc w.drew _ b hb) (.inl (Nat.le_refl _))
                              (fun β' hle hk => ⟨rfl, by rw [if_pos rfl]; exact ⟨_, rfl, hown β' hle⟩⟩) rfl
                            rw [hn0, Nat.zero_add]
                            exact ⟨β', _, _, hr, V_slice.2 ⟨rfl, .inr ⟨_, b2, _, _, rfl, hcap, fun _ => rfl, fun N hN => by simp at hN; subst hN; simp⟩⟩, b3⟩
                        · have hA' := ha (.inr c1)
                          have hsp := hR.spot _ _ hA
                          have haa : A' = A.addr := by rw [hA', c1]; simp [Addr.add]
                          subst haa
                          have hblk := (hR.blk _ _ _ hBk hA).2
                          rw [if_pos hw] at hblk
                          obtain ⟨N, hAN, hown⟩ := hblk
                          have hcN := hN N hAN
                          rw [c1, Nat.zero_add] at hcN
                          have hRl := (forall2_get hf).1
                          by_cases hroom : n + m ≤ c'
                          · have hmore := fun w' => hown.more (w' := w') hsp hf (by omega)
                            obtain ⟨cur, fr, g1, g2, g3, -⟩ := hmore w
                            have hone : ∀ v ∈ news, v.oneCell' = true := by
                              intro v hv
                              obtain ⟨j, hj, rfl⟩ := List.mem_iff_getElem.1 hv
                              obtain ⟨u, q1, q2⟩ := (forall2_get hf).2 j _ (List.getElem?_eq_getElem (by omega))
                              rw [List.getElem?_eq_getElem hj] at q1; cases q1
                              exact V1_one q2
                            obtain ⟨w', hrun, hst⟩ := storeCells_ok (P := P) A.addr.block B.row.cells.length B.ty fr news 0 w cur g1 g2 (by omega) hone
                            rw [Nat.add_zero] at hst
                            have haddr : A.addr.add n = ⟨A.addr.block, B.row.cells.length, none⟩ := by rw [add_none hsp, hown.off, Nat.zero_add, hnl]
                            have hr := run_append_room' (P := P) (w := w) (ty := ty) (base := some A.addr) (sLen := n) (sCap := c') hu hinf hzz hzc his hap hlen hroom (w2 := w') (fun a e => by cases e; rw [haddr]; exact hrun) (fun e => by cases e)
                            obtain ⟨cur2, fr2, q1, _, _, hO⟩ := hmore w'
                            rw [g1] at q1; cases q1
                            have hO' := hO hst
                            rw [← joinR_cells] at hO'
                            obtain ⟨β', b1, b2, b3⟩ := tr_key hR (some p.block) (B' := ⟨true, e, joinR B.row R⟩) (A' := A) (w' := w') hst.os hst.tape hst.output (by rw [hst.size]; exact Nat.le_refl _) hsp (fun b _ hne => hst.other b hne) (.inr ⟨_, B, A, rfl, hBk, hw, hA, rfl⟩)
                              (fun β' hle hk => ⟨hsp, by rw [if_pos rfl]; exact ⟨N, hAN, by rw [← hbt]; exact hO'.ext hle rfl⟩⟩) rfl
                            exact ⟨β', _, _, hr, V_slice.2 ⟨rfl, .inr ⟨_, b2, _, _, rfl, hroom, fun _ => by simp [Addr.add], fun N' hN' => by rw [hAN] at hN'; cases hN'; simp only; omega⟩⟩, b3⟩
                          · obtain ⟨olds, o1, o2, o3⟩ := firstCells_own (P := P) hown hsp c'
                            rw [← hnl] at o3 o1
                            have hr := run_append_grow' (P := P) (w := w) (ty := ty) (base := some A.addr) (sLen := n) (sCap := c') (olds := olds) hu hinf hzz hzc his hap hlen o3 hcn (by omega) c3 (by rw [hib]; exact c4)
                            have hcap := grownCap_ge w (n + m) c' e
                            have hown2 := fun β' (hle : β.le β') => own_grown (A0 := w.drew.alloc (.cells (olds ++ news ++ List.replicate (grownCap w (n + m) c' e - (n + m)) z).toArray e)) (cells := []) (R := R) (R0 := B.row) (R1 := R) (g := w.heap.size) (N := grownCap w (n + m) c' e) (β := β) hle o2 hf (alloc_at w.drew _) (by omega)
                            obtain ⟨β', b1, b2, b3⟩ := tr_key hR (some p.block) (B' := ⟨true, e, joinR B.row R⟩) (A' := ⟨⟨w.heap.size, 0, none⟩, some (grownCap w (n + m) c' e)⟩) (w' := w.drew.alloc (.cells (olds ++ news ++ List.replicate (grownCap w (n + m) c' e - (n + m)) z).toArray e)) rfl rfl rfl (by rw [alloc_size]; exact Nat.le_succ _) rfl (fun b hb _ => Below.heap_alloc w.drew _ b hb) (.inl (Nat.le_refl _))
                              (fun β' hle hk => ⟨rfl, by rw [if_pos rfl]; exact ⟨_, rfl, hown2 β' hle⟩⟩) rfl
                            exact ⟨β', _, _, hr, V_slice.2 ⟨rfl, .inr ⟨_, b2, _, _, rfl, hcap, fun _ => rfl, fun N' hN' => by simp at hN'; subst hN'; simp⟩⟩, b3⟩
                      · simp at h
                    · simp at h
                  · simp at h
                · simp at h
              · simp at h
            · simp at h
          · simp at h
        · simp at h
  · simp at h

end
end Go.Proofs.Ytgkplkmjnpofkaa.Abs
namespace Go.Proofs.Ytgkplkmjnpofkaa.Abs
open Go Go.RowKit

section
variable {P : Program} {w : World} {β : Loc}

/-! ### 9. A call that is handed blocks, or hands some back -/
def pos : List Nat → Nat → Option Nat
  | [], _ => none
  | a :: r, k => if Nat.beq a k then some 0 else match pos r k with | some i => some (i + 1) | none => none
theorem pos_some : ∀ {l : List Nat} {k i : Nat}, pos l k = some i → l[i]? = some k
  | [], _, _, h => by simp [pos] at h
  | a :: r, k, i, h => by
    unfold pos at h
    split at h
    · rename_i e; cases h; simp [Nat.eq_of_beq_eq_true e]
    · split at h
      · rename_i j hj; cases h; simpa using pos_some hj
      · cases h
theorem pos_none : ∀ {l : List Nat} {k : Nat}, pos l k = none → ∀ i : Nat, l[i]? ≠ some k
  | [], _, _, i => by simp
  | a :: r, k, h, i => by
    unfold pos at h
    split at h
    · cases h
    · rename_i e
      split at h
      · cases h
      · rename_i hj
        cases i with
        | zero => simp; intro e2; subst e2; simp at e
        | succ i => simpa using pos_none hj i

def remap (f : Nat → Option Blk → Option Blk) (k : Nat) : Heap → Heap
  | [] => []
  | x :: r => f k x :: remap f (k + 1) r
theorem remap_get (f : Nat → Option Blk → Option Blk) : ∀ (H : Heap) (k i : Nat), (remap f k H)[i]? = (H[i]?).map (f (k + i))
  | [], k, i => by simp [remap]
  | x :: r, k, i => by
    cases i with
    | zero => simp [remap]
    | succ i => simp only [remap, List.getElem?_cons_succ]; rw [remap_get f r]; congr 2; omega
theorem remap_len (f : Nat → Option Blk → Option Blk) : ∀ (H : Heap) (k : Nat), (remap f k H).length = H.length
  | [], k => rfl
  | x :: r, k => by simp [remap, remap_len f r]

def backOne (ι : List Nat) (l : Heap) (κ : Nat) (x : Option Blk) : Option Blk :=
  match x with
  | some B => if B.wr then match pos ι κ with | some i => l.getD i none | none => some B else some B
  | none => none
/-- What the caller holds behind: the written blocks anew (or no more), the new ones at the end. -/
def putBack (H : Heap) (ι : List Nat) (l : Heap) : Heap := remap (backOne ι l) 0 H ++ l.drop ι.length

def okHs : Heap → Heap → Bool
  | some B :: r, x :: r' => flatRow B.row && (match x with | some B' => if B.wr then B'.wr && flatRow B'.row else true | none => true) && okHs r r'
  | none :: _, _ :: _ => false
  | [], r' => r'.all fun x => match x with | some B => B.wr && flatRow B.row | none => true
  | _ :: _, [] => false

theorem okHs_ok : ∀ {l l' : Heap}, okHs l l' = true → l.length ≤ l'.length ∧ (∀ (i : Nat) x, l[i]? = some x → ∃ B, x = some B ∧ flatRow B.row = true ∧ ∀ B', l'[i]? = some (some B') → B.wr = true → B'.wr = true ∧ flatRow B'.row = true) ∧
    ∀ (i : Nat) B', l.length ≤ i → l'[i]? = some (some B') → B'.wr = true ∧ flatRow B'.row = true
  | [], r', h => by
    refine ⟨Nat.zero_le _, fun i x hx => by simp at hx, fun i B' _ hi => ?_⟩
    simp only [okHs, List.all_eq_true] at h
    have := h _ (List.mem_of_getElem? hi)
    simpa using this
  | some B :: r, [], h => by simp [okHs] at h
  | none :: r, [], h => by simp [okHs] at h
  | none :: r, y :: r', h => by simp [okHs] at h
  | some B :: r, y :: r', h => by
    simp only [okHs, Bool.and_eq_true] at h
    obtain ⟨⟨h1, h2⟩, h3⟩ := h
    obtain ⟨i1, i2, i3⟩ := okHs_ok h3
    refine ⟨by simpa using i1, fun i x hx => ?_, fun i B' hi hB' => ?_⟩
    · cases i with
      | zero =>
        simp at hx; subst hx
        refine ⟨B, rfl, h1, fun B' hB' hw => ?_⟩
        simp at hB'; subst hB'
        simp only [hw, if_true, Bool.and_eq_true] at h2
        exact h2
      | succ i => simpa using i2 i x (by simpa using hx)
    · cases i with
      | zero => simp at hi
      | succ i => exact i3 i B' (by simpa using hi) (by simpa using hB')

theorem callH_ok {H : Heap} (hR : Rel β H w) {f : FuncId} {ι : List Nat} {as xs' : List Value} {v : Value} {Hs' : Heap} {bad : Nat} (hbad : H.length + Hs'.length ≤ bad) (hnd : nodupB ι = true) (hok : okHs (view H ι) Hs' = true) (hfn : FnOk P f as (view H ι) v Hs')
    (hargs : F2 (V β) (as.map (ren ι bad)) xs') :
    Calls P f xs'.toArray w (fun e w' => ∃ β' v', e = .returned v' ∧ V β' (ren (ι ++ List.range' H.length (Hs'.length - ι.length)) bad v) v' ∧ Tr β H w β' (putBack H ι Hs') w') := by
  have hvl : (view H ι).length = ι.length := by simp [view]
  obtain ⟨ok1, ok2, ok3⟩ := okHs_ok hok
  rw [hvl] at ok1 ok3
  -- what the callee sees
  have hview : ∀ {i : Nat} {B : Blk}, (view H ι)[i]? = some (some B) → ∃ k, ι[i]? = some k ∧ H[k]? = some (some B) := by
    intro i B h
    simp only [view, List.getElem?_map] at h
    cases hk : ι[i]? with
    | none => simp [hk] at h
    | some k => simp [hk] at h; exact ⟨k, rfl, key?_ok (by unfold key?; rw [List.getD_eq_getElem?_getD]; exact h)⟩
  have hviewk : ∀ {i k : Nat}, ι[i]? = some k → ∃ B, (view H ι)[i]? = some (some B) ∧ H[k]? = some (some B) ∧ flatRow B.row = true := by
    intro i k h
    have hx : (view H ι)[i]? = some (H.getD k none) := by simp [view, h]
    obtain ⟨B, h1, h2, _⟩ := ok2 i _ hx
    rw [h1] at hx
    obtain ⟨k', h3, h4⟩ := hview hx
    rw [h] at h3; cases h3
    exact ⟨B, hx, h4, h2⟩
  let βs : Loc := fun κ => match ι[κ]? with | some k => β k | none => none
  have hβs : ∀ {i k : Nat}, ι[i]? = some k → βs i = β k := fun h => by simp only [βs, h]
  have hβn : ∀ {i : Nat}, ι.length ≤ i → βs i = none := fun h => by simp only [βs, List.getElem?_eq_none h]
  have hback : Back ι bad βs β := by
    intro κ A hA
    rcases Nat.lt_or_ge κ ι.length with h | h
    · have := List.getElem?_eq_getElem h
      rw [hβs this]
      rwa [getD_some this] at hA
    · rw [getD_none h, hR.dom bad (by omega)] at hA; cases hA
  have hRs : Rel βs (view H ι) w := by
    refine ⟨⟨?_, ?_, ?_⟩, fun κ h => hβn (by rw [hvl] at h; exact h), fun i B g h1 h2 h3 => by
      obtain ⟨k, h4, h5⟩ := hview h1
      rw [hβs h4]; exact hR.glob k B g h5 h2 h3⟩
    · intro i B A h1 h2
      obtain ⟨k, h3, h4⟩ := hview h1
      rw [hβs h3] at h2
      obtain ⟨B', e, hf, _⟩ := ok2 i _ h1
      cases e
      exact (hR.blk k B A h4 h2).flat hf
    · intro i j B B' A A' h1 h2 h3 h4 hne hw hn
      obtain ⟨k, e1, e2⟩ := hview h1
      obtain ⟨k', e3, e4⟩ := hview h2
      rw [hβs e1] at h3
      rw [hβs e3] at h4
      exact hR.sep k k' B B' A A' e2 e4 h3 h4 (fun e => hne (nodupB_ok hnd i j k e1 (e ▸ e3))) hw hn
    · intro i A h
      rcases Nat.lt_or_ge i ι.length with hl | hl
      · rw [hβs (List.getElem?_eq_getElem hl)] at h; exact hR.spot _ _ h
      · rw [hβn hl] at h; cases h
  refine (hfn.goes βs xs' w (F2_map_down (fun _ _ => ren_down hback) hargs) hRs).mono ?_
  rintro e w' ⟨β's, v', rfl, hv, ht⟩
  let β' : Loc := fun κ => if κ < H.length then β κ else β's (ι.length + (κ - H.length))
  have hlo : ∀ {κ : Nat}, κ < H.length → β' κ = β κ := fun h => by simp only [β', if_pos h]
  have hhi : ∀ {κ : Nat}, H.length ≤ κ → β' κ = β's (ι.length + (κ - H.length)) := fun h => by simp only [β', if_neg (Nat.not_lt.2 h)]
  have hlt : ∀ {κ : Nat} {x : Option Blk}, H[κ]? = some x → κ < H.length := fun h => (List.getElem?_eq_some_iff.1 h).1
  have hle : β.le β' := by
    intro κ A hA
    rcases Nat.lt_or_ge κ H.length with h | h
    · rw [hlo h]; exact hA
    · rw [hR.dom κ h] at hA; cases hA
  have hs1 : ∀ {i k : Nat}, ι[i]? = some k → k < H.length := fun h => by obtain ⟨B, _, h2, _⟩ := hviewk h; exact hlt h2
  have hil : ∀ {i k : Nat}, ι[i]? = some k → i < ι.length := fun h => (List.getElem?_eq_some_iff.1 h).1
  -- the places of the keys that were handed over stay
  have hsame : ∀ {i k : Nat} {A : Place}, ι[i]? = some k → (β's i = some A ↔ β k = some A) := by
    intro i k A h1
    constructor
    · intro h2
      have := ht.fix i A (by rw [hvl]; exact hil h1) h2
      rwa [hβs h1] at this
    · intro h2
      exact ht.le i A (by rw [hβs h1]; exact h2)
  -- the lookups behind
  have hH'lo : ∀ {κ : Nat} {B : Blk}, κ < H.length → (putBack H ι Hs')[κ]? = some (some B) →
      (∃ (i : Nat) (B0 : Blk), ι[i]? = some κ ∧ H[κ]? = some (some B0) ∧ B0.wr = true ∧ Hs'[i]? = some (some B)) ∨ (H[κ]? = some (some B) ∧ (B.wr = true → ∀ i : Nat, ι[i]? ≠ some κ)) := by
    intro κ B hκ h
    unfold putBack at h
    rw [List.getElem?_append_left (by rw [remap_len]; exact hκ), remap_get, Nat.zero_add] at h
    cases hx : H[κ]? with
    | none => simp [hx] at h
    | some x =>
      simp only [hx, Option.map_some, Option.some.injEq] at h
      unfold backOne at h
      split at h
      · rename_i B0
        split at h
        · rename_i hw
          split at h
          · rename_i i hp
            left
            refine ⟨i, B0, pos_some hp, rfl, hw, ?_⟩
            rw [List.getD_eq_getElem?_getD] at h
            cases hg : Hs'[i]? with
            | none => simp [hg] at h
            | some y => simp [hg] at h; rw [h]
          · rename_i hp
            cases h
            exact .inr ⟨rfl, fun _ => pos_none hp⟩
        · rename_i hw
          cases h
          exact .inr ⟨rfl, fun hw' => absurd hw' hw⟩
      · cases h
  have hH'hi : ∀ {κ : Nat} {B : Blk}, H.length ≤ κ → (putBack H ι Hs')[κ]? = some (some B) → Hs'[ι.length + (κ - H.length)]? = some (some B) ∧ ι.length ≤ ι.length + (κ - H.length) := by
    intro κ B hκ h
    unfold putBack at h
    rw [List.getElem?_append_right (by rw [remap_len]; exact hκ), remap_len, List.getElem?_drop] at h
    exact ⟨h, Nat.le_add_right _ _⟩
  -- a block that the callee was not handed to write stands
  have hstand : ∀ {κ : Nat} {B : Blk} {A : Place}, H[κ]? = some (some B) → β κ = some A → (B.wr = true → ∀ i : Nat, ι[i]? ≠ some κ) → (B.wr = true ∨ B.row.cells ≠ []) → w'.heap[A.addr.block]? = w.heap[A.addr.block]? := by
    intro κ B A h1 h2 h3 h4
    refine ht.frame _ ((hR.blk κ B A h1 h2).lt h4) fun i B0 A0 q1 q2 q3 e => ?_
    obtain ⟨k, q4, q5⟩ := hview q1
    rw [hβs q4] at q3
    by_cases hk : k = κ
    · subst hk
      rw [h1] at q5; cases q5
      exact h3 q2 i q4
    · exact hR.sep k κ B0 B A0 A q5 h1 q3 h2 hk q2 h4 e
  -- where a block lies that may be written behind
  have hwhere : ∀ {j : Nat} {B : Blk} {A : Place}, Hs'[j]? = some (some B) → B.wr = true → β's j = some A → w.heap.size ≤ A.addr.block ∨ ∃ (i k : Nat) (B0 : Blk) (A0 : Place), ι[i]? = some k ∧ H[k]? = some (some B0) ∧ B0.wr = true ∧ β k = some A0 ∧ A0.addr.block = A.addr.block := by
    intro j B A h1 h2 h3
    rcases ht.muts j B A h1 h2 h3 with h | ⟨i, B0, A0, q1, q2, q3, q4⟩
    · exact .inl h
    · obtain ⟨k, q5, q6⟩ := hview q1
      rw [hβs q5] at q3
      exact .inr ⟨i, k, B0, A0, q5, q6, q2, q3, q4⟩
  -- such a block is not where a block lies that was not handed over
  have hapart : ∀ {j : Nat} {B : Blk} {A : Place} {κ : Nat} {B2 : Blk} {A2 : Place}, Hs'[j]? = some (some B) → B.wr = true → β's j = some A → H[κ]? = some (some B2) → β κ = some A2 → (B2.wr = true → ∀ i : Nat, ι[i]? ≠ some κ) → (B2.wr = true ∨ B2.row.cells ≠ []) → A.addr.block ≠ A2.addr.block := by
    intro j B A κ B2 A2 h1 h2 h3 h4 h5 h6 h7
    rcases hwhere h1 h2 h3 with h | ⟨i, k, B0, A0, q1, q2, q3, q4, q5⟩
    · have := (hR.blk κ B2 A2 h4 h5).lt h7; omega
    · rw [← q5]
      refine hR.sep k κ B0 B2 A0 A2 q2 h4 q4 h5 (fun e => ?_) q3 h7
      subst e
      rw [h4] at q2; cases q2
      exact h6 q3 i q1
  -- a key behind: one of the callee's, or one that was not handed over
  have hcase : ∀ {κ : Nat} {B : Blk} {A : Place}, (putBack H ι Hs')[κ]? = some (some B) → β' κ = some A →
      (∃ (j : Nat), Hs'[j]? = some (some B) ∧ β's j = some A ∧ B.wr = true ∧ flatRow B.row = true ∧ (κ < H.length → ι[j]? = some κ) ∧ (H.length ≤ κ → j = ι.length + (κ - H.length))) ∨ (κ < H.length ∧ H[κ]? = some (some B) ∧ β κ = some A ∧ (B.wr = true → ∀ i : Nat, ι[i]? ≠ some κ)) := by
    intro κ B A h1 h2
    rcases Nat.lt_or_ge κ H.length with h | h
    · rw [hlo h] at h2
      rcases hH'lo h h1 with ⟨i, B0, q1, q2, q3, q4⟩ | ⟨q1, q2⟩
      · left
        obtain ⟨B1, e1, e2, _⟩ := hviewk q1
        rw [q2] at e2; cases e2
        obtain ⟨B2, e3, _, e4⟩ := ok2 i _ e1
        cases e3
        obtain ⟨e5, e6⟩ := e4 B q4 q3
        exact ⟨i, q4, (hsame q1).2 h2, e5, e6, fun _ => q1, fun hh => by omega⟩
      · exact .inr ⟨h, q1, h2, q2⟩
    · rw [hhi h] at h2
      obtain ⟨q1, q2⟩ := hH'hi h h1
      obtain ⟨e1, e2⟩ := ok3 _ B q2 q1
      exact .inl ⟨_, q1, h2, e1, e2, fun hh => by omega, fun _ => rfl⟩
  have hjne : ∀ {j1 j2 κ1 κ2 : Nat}, κ1 ≠ κ2 → (κ1 < H.length → ι[j1]? = some κ1) → (H.length ≤ κ1 → j1 = ι.length + (κ1 - H.length)) → (κ2 < H.length → ι[j2]? = some κ2) → (H.length ≤ κ2 → j2 = ι.length + (κ2 - H.length)) → j1 ≠ j2 := by
    intro j1 j2 κ1 κ2 hne a1 b1 a2 b2 e
    subst e
    rcases Nat.lt_or_ge κ1 H.length with h1 | h1 <;> rcases Nat.lt_or_ge κ2 H.length with h2 | h2
    · have := a1 h1; rw [a2 h2] at this; cases this; exact hne rfl
    · have := hil (a1 h1); have := b2 h2; omega
    · have := hil (a2 h2); have := b1 h1; omega
    · have := b1 h1; have := b2 h2; omega
  refine ⟨β', v', rfl, ren_up ?_ hv, hle, ?_, ?_, ⟨⟨?_, ?_, ?_⟩, ?_, ?_⟩, ht.os, ht.tape, ht.output, ht.size, ?_, ?_⟩
  · -- the result's keys
    intro κ A hA
    rcases Nat.lt_or_ge κ ι.length with h | h
    · have hk := List.getElem?_eq_getElem h
      rw [getD_some (by rw [List.getElem?_append_left h]; exact hk)]
      rw [hlo (hs1 hk)]
      exact (hsame hk).1 hA
    · have hdom : κ < Hs'.length := by
        rcases Nat.lt_or_ge κ Hs'.length with h' | h'
        · exact h'
        · rw [ht.rel.dom κ h'] at hA; cases hA
      rw [getD_some (a := H.length + (κ - ι.length)) (by
        rw [List.getElem?_append_right h, List.getElem?_range' (by omega)]
        simp)]
      rw [hhi (by omega)]
      rw [show ι.length + (H.length + (κ - ι.length) - H.length) = κ by omega]
      exact hA
  · unfold putBack; simp [remap_len]
  · intro κ A hκ e; rwa [hlo hκ] at e
  · intro κ B A h1 h2
    rcases hcase h1 h2 with ⟨j, q1, q2, q3, q4, _⟩ | ⟨hκ, q1, q2, q3⟩
    · exact (ht.rel.blk j B A q1 q2).flat q4
    · exact (hR.blk κ B A q1 q2).keep hle fun hn => hstand q1 q2 q3 hn
  · intro κ1 κ2 B1 B2 A1 A2 h1 h2 h3 h4 hne hw hn
    rcases hcase h1 h3 with ⟨j1, q1, q2, q3, q4, q5, q6⟩ | ⟨hκ1, q1, q2, q3⟩ <;> rcases hcase h2 h4 with ⟨j2, r1, r2, r3, r4, r5, r6⟩ | ⟨hκ2, r1, r2, r3⟩
    · exact ht.rel.sep j1 j2 B1 B2 A1 A2 q1 r1 q2 r2 (hjne hne q5 q6 r5 r6) hw hn
    · exact hapart q1 q3 q2 r1 r2 r3 hn
    · exact (hapart r1 r3 r2 q1 q2 q3 (.inl hw)).symm
    · exact hR.sep κ1 κ2 B1 B2 A1 A2 q1 r1 q2 r2 hne hw hn
  · intro κ A h
    rcases Nat.lt_or_ge κ H.length with hl | hl
    · rw [hlo hl] at h; exact hR.spot κ A h
    · rw [hhi hl] at h; exact ht.rel.spot _ A h
  · intro κ hκ
    have : H.length + (Hs'.length - ι.length) ≤ κ := by
      unfold putBack at hκ
      simp [remap_len] at hκ
      exact hκ
    rw [hhi (by omega)]
    exact ht.rel.dom _ (by omega)
  · intro κ B g h1 h2 h3
    rcases Nat.lt_or_ge κ H.length with h | h
    · rcases hH'lo h h1 with ⟨i, B0, q1, q2, q3, q4⟩ | ⟨q1, q2⟩
      · exfalso
        obtain ⟨B1, e1, e2, _⟩ := hviewk q1
        rw [q2] at e2; cases e2
        obtain ⟨B2, e3, _, e4⟩ := ok2 i _ e1
        cases e3
        have := (e4 B q4 q3).1
        rw [this] at h2; cases h2
      · rw [hlo h]; exact hR.glob κ B g q1 h2 h3
    · exfalso
      obtain ⟨q1, q2⟩ := hH'hi h h1
      have := (ok3 _ B q2 q1).1
      rw [this] at h2; cases h2
  · intro b hb hm
    refine ht.frame b hb fun i B A q1 q2 q3 => ?_
    obtain ⟨k, q4, q5⟩ := hview q1
    rw [hβs q4] at q3
    exact hm k B A q5 q2 q3
  · intro κ B A h1 h2 h3
    rcases hcase h1 h3 with ⟨j, q1, q2, q3, _⟩ | ⟨hκ, q1, q2, q3⟩
    · rcases hwhere q1 h2 q2 with h | ⟨i, k, B0, A0, e1, e2, e3, e4, e5⟩
      · exact .inl h
      · exact .inr ⟨k, B0, A0, e2, e3, e4, e5⟩
    · exact .inr ⟨κ, B, A, q1, h2, q2, rfl⟩
end
end Go.Proofs.Ytgkplkmjnpofkaa.Abs
namespace Go.Proofs.Ytgkplkmjnpofkaa.Abs
open Go Go.RowKit

section
variable {P : Program} {w : World} {β : Loc}

/-! ### 10. copy(slice, text) -/
def evCopy (Θ : Types) (H : Heap) : List TypeId → List Value → Option (Value × Heap × Prop)
  | [t, t2], [.slice (some p) n _, .string s] =>
    match Θ.tv t, Θ.tv t2, key? H p.block with
    | some (.slice e), some .str, some B => match B.row, Θ.siz e with
      | .ints .u8 xs, some 1 => if B.wr then some (.int .i64 (min s.size n : Nat), H.set p.block (some ⟨true, B.ty, .ints .u8 ((bytesOf s).take n ++ xs.drop (min s.size n))⟩), p.off = 0 ∧ n ≤ xs.length) else none
      | _, _ => none
    | _, _, _ => none
  | _, _ => none

theorem bytesOf_len (s : ByteArray) : (bytesOf s).length = s.size := by simp [bytesOf]

theorem evCopy_ok {Θ : Types} (hΘ : Θ.Ok P) {H : Heap} (hR : Rel β H w) {ts : List TypeId} {vs vs' : List Value} {ty : TypeId} {v : Value} {H' : Heap} {C : Prop} (h : evCopy Θ H ts vs = some (v, H', C)) (hC : C) (hv : F2 (V β) vs vs') :
    ∃ β' v' w', (Builtin.copy_ ts.toArray ty vs'.toArray).run P w = .ok v' w' ∧ V β' v v' ∧ Tr β H w β' H' w' := by
  unfold evCopy at h
  split at h
  · rename_i t t2 p n c s
    cases hv with
    | cons hs hv =>
      rename_i s' l'
      cases hv with
      | cons hx hv =>
        rename_i x' l''
        cases hv
        obtain rfl := V_string.1 hx
        split at h
        · rename_i e B htv htv2 hB
          split at h
          · rename_i xs hrow hsz
            split at h
            · rename_i hw
              simp only [Option.some.injEq, Prod.mk.injEq] at h
              obtain ⟨rfl, rfl, rfl⟩ := h
              obtain ⟨c1, c2⟩ := hC
              obtain ⟨ti, hti, e1⟩ := look_tv htv
              have hu := (hΘ.look hti).slice e1
              obtain ⟨ei, hei, e2⟩ := look_siz hsz
              obtain ⟨i, zv, hinf, his, hib, hzz, hcells⟩ := (hΘ.look hei).info
              rw [e2] at his
              have hBk := key?_ok hB
              have hcl : B.row.cells = xs.map (.int .u8) := by rw [hrow]; rfl
              let m := min s.size n
              have hfc : ∀ (s' : Value), (Builtin.firstCells 1 m (.string s)).run P w = .ok ((bytesOf s).take n |>.map (Value.int .u8)).toArray w := by
                intro _
                simp [Builtin.firstCells, bytesOf]
                apply Array.toList_inj.1
                simp [List.map_take, m]
                by_cases hle : s.size ≤ n
                · rw [Nat.min_eq_left hle, List.take_of_length_le (by simp), List.take_of_length_le (by simp; exact hle)]
                  rfl
                · rw [Nat.min_eq_right (by omega)]
                  rfl
              have hmin : Nat.min s.size n = m := rfl
              obtain ⟨hsp0, hvs⟩ := V_slice.1 hs
              rcases hvs with ⟨hn0, rfl⟩ | ⟨A, hA, A', c', rfl, hcn, ha, hN⟩
              · subst hn0
                have hm0 : m = 0 := by simp [m]
                have hfc' := hfc (.int .u8 0)
                refine ⟨β, .int .i64 (0 : Int), w, ?_, ?_, ?_⟩
                · rw [hm0] at hfc'
                  simp [Builtin.copy_, run_underlying hu, Builtin.lenOf, sizeOf, typeInfo, hinf, his, hfc', goInt]
                · simp [V_int]
                · simp only [Nat.min_zero, List.take_zero, List.nil_append, List.drop_zero]
                  have : H.set p.block (some ⟨true, B.ty, .ints .u8 xs⟩) = H := by
                    apply List.ext_getElem?
                    intro j
                    rw [List.getElem?_set]
                    split
                    · rename_i hj; subst hj
                      have hlt := (List.getElem?_eq_some_iff.1 hBk).1
                      rw [if_pos hlt, hBk, ← hrow, ← hw]
                    · rfl
                  rw [this]
                  exact Tr.refl hR
              · have hsp := hR.spot _ _ hA
                have haa : A' = A.addr := by rw [ha (.inr c1), c1]; simp [Addr.add]
                subst haa
                have hblk := (hR.blk _ _ _ hBk hA).2
                rw [if_pos hw] at hblk
                obtain ⟨N, hAN, hown⟩ := hblk
                let seg : List Value := ((bytesOf s).take n).map (.int .u8)
                have hsegl : seg.length = m := by simp [seg, bytesOf_len, m, Nat.min_comm]
                have hseg : F2 (V1 β) seg seg := forall2_flat_mk (by
                intro v hv
                obtain ⟨a, _, rfl⟩ := List.mem_map.1 hv
                rfl)
                have hfit : 0 + seg.length ≤ B.row.cells.length := by rw [hcl, hsegl]; simp [m]; omega
                have hO := fun w' => own_stored (w' := w') hown hsp hseg hfit
                obtain ⟨cur, fr, g1, g2, g3, -⟩ := hO w
                have hone : ∀ v ∈ seg, v.oneCell' = true := by
                  intro v hv
                  obtain ⟨a, _, rfl⟩ := List.mem_map.1 hv
                  rfl
                obtain ⟨w', hrun, hst⟩ := storeCells_ok (P := P) A.addr.block 0 B.ty fr seg 0 w cur g1 g2 (by simpa using g3) hone
                have haddr : A.addr = ⟨A.addr.block, 0, none⟩ := by
                  have h1 := hown.off
                  cases hA2 : A.addr with
                  | mk b o sp => rw [hA2] at h1 hsp; simp at h1 hsp; simp [h1, hsp]
                have hfc' := hfc (.int .u8 0)
                refine ⟨β, .int .i64 (m : Int), w', ?_, ?_, ?_⟩
                · rw [← haddr] at hrun
                  have e3 : (seg.toArray).toList = seg := rfl
                  simp [Builtin.copy_, run_underlying hu, Builtin.lenOf, sizeOf, typeInfo, hinf, his, goInt, hmin]
                  rw [hfc']
                  simp only [Result.andThen]
                  rw [show storeCells A.addr (List.map (Value.int IntKind.u8) (List.take n (bytesOf s))) = storeCells A.addr seg from rfl, hrun]
                · simp [V_int, m]
                · obtain ⟨cur2, fr2, q1, _, _, hO'⟩ := hO w'
                  rw [g1] at q1; cases q1
                  have hown' := hO' (by simpa using hst)
                  refine tr_write hR hBk hw hA hAN hst.os hst.tape hst.output hst.size hst.other ?_
                  have : (Row.ints .u8 ((bytesOf s).take n ++ xs.drop (min s.size n))).cells = spl B.row.cells 0 seg := by
                    rw [hcl]
                    simp only [Row.cells, spl, List.take_zero, List.nil_append, Nat.zero_add, hsegl, List.map_append, List.map_drop, seg, m]
                  rw [this]
                  exact hown'
            · simp at h
          · simp at h
        · simp at h
  · simp at h

/-! ### 11. Any operation -/
structure SOut where
  v : Value
  H : Heap
  C : Prop
  hs : List Hint

def isVals : Row → Bool
  | .vals _ => true
  | _ => false

def evS (P : Program) (Θ : Types) (T : Slots) (H : Heap) (o : Op) (hs : List Hint) : Option SOut :=
  match o with
  | .store t p x =>
    match opd T p, opd T x with
    | some (.pointer (some q)), some (.agg cs) =>
      match key? H q.block with
      | some B => if isVals B.row then
          match evStore Θ H t none (.pointer (some q)) (.agg cs) with
          | some (H', C) => some ⟨undef, H', C, hs⟩
          | none => none
        else match hs with
          | .row R :: hs' => match evStore Θ H t (some R) (.pointer (some q)) (.agg cs) with
            | some (H', C) => some ⟨undef, H', C, hs'⟩
            | none => none
          | _ => none
      | none => none
    | some vp, some v => match evStore Θ H t none vp v with
      | some (H', C) => some ⟨undef, H', C, hs⟩
      | none => none
    | _, _ => none
  | .call c =>
    match c.callee with
    | .builtin .append => match opds T c.args.toList with
      | some vs => match evAppend Θ H c.argTypes.toList vs with
        | some (v, H', C) => some ⟨v, H', C, hs⟩
        | none => none
      | none => none
    | .builtin .copy => match opds T c.args.toList with
      | some vs => match evCopy Θ H c.argTypes.toList vs with
        | some (v, H', C) => some ⟨v, H', C, hs⟩
        | none => none
      | none => none
    | .value (.func f) => match hs with
      | .callH ι as Hs' v vc :: hs' => match opds T c.args.toList with
        | some vs => if nodupB ι && okHs (view H ι) Hs' then
            some ⟨vc, putBack H ι Hs', vs = as.map (ren ι (H.length + Hs'.length)) ∧ FnOk P f as (view H ι) v Hs' ∧ vc = ren (ι ++ List.range' H.length (Hs'.length - ι.length)) (H.length + Hs'.length) v, hs'⟩
          else none
        | none => none
      | .callF v H' :: hs' => match opds T c.args.toList with
        | some vs => some ⟨v, H', FnOk P f vs H v H', hs'⟩
        | none => none
      | hs => match evQCall P Θ T H c hs with
        | some q => some ⟨q.v, grow H q.N, q.C, q.hs⟩
        | none => none
    | _ => match evQCall P Θ T H c hs with
      | some q => some ⟨q.v, grow H q.N, q.C, q.hs⟩
      | none => none
  | o => match evQ P Θ T H o hs with
    | some q => some ⟨q.v, grow H q.N, q.C, q.hs⟩
    | none => none

theorem hard_run {H : Heap} {o : Oper} {a : Act} {v : Value} {H' : Heap} {m : Sem Value} (hex : execOp a.eval o = (do pure (.value (← m)))) (hr : ∃ β' v' w', m.run P w = .ok v' w' ∧ V β' v v' ∧ Tr β H w β' H' w') : Hard P o a β H w H' v := by
  obtain ⟨β', v', w', h1, h2, h3⟩ := hr
  intro K Q hK
  unfold Oper.wp
  rw [hex]
  simp [h1]
  exact hK β' v' w' h2 h3

theorem evS_ok {Θ : Types} (hΘ : Θ.Ok P) {T : Slots} {H : Heap} {o : Oper} {a : Act} {hs : List Hint} {q : SOut} (h : evS P Θ T H o.op hs = some q) (hC : q.C) (ht : TR β T a) (hR : Rel β H w) : Hard P o a β H w q.H q.v := by
  have hkey : ∀ N : Option Blk, β H.length = none ∨ N = none := fun N => .inl (hR.dom _ (Nat.le_refl _))
  unfold evS at h
  split at h
  · rename_i t op ox ho
    split at h
    · rename_i p cs hp hx
      split at h
      · rename_i B hB
        split at h
        · split at h
          · rename_i H' C hst
            simp at h; subst h
            exact evStore_ok hΘ hR ho hst hC (opd_ok ht hp) (opd_ok ht hx)
          · simp at h
        · split at h
          · split at h
            · rename_i H' C hst
              simp at h; subst h
              exact evStore_ok hΘ hR ho hst hC (opd_ok ht hp) (opd_ok ht hx)
            · simp at h
          · simp at h
      · simp at h
    · rename_i vp v hp hx
      split at h
      · rename_i H' C hst
        simp at h; subst h
        exact evStore_ok hΘ hR ho hst hC (opd_ok ht hp) (opd_ok ht hx)
      · simp at h
    · simp at h
  · rename_i c ho
    have quiet : ∀ {hs : List Hint}, (match evQCall P Θ T H c hs with | some q => some (⟨q.v, grow H q.N, q.C, q.hs⟩ : SOut) | none => none) = some q → Hard P o a β H w q.H q.v := by
      intro hs h
      split at h
      · rename_i q' hq
        simp at h; subst h
        exact (evQ_ok hΘ (T := T) (hs := hs) (by rw [ho]; exact hq) hC ht hR.toRelB hR.glob (hkey _)).hard hR
      · simp at h
    split at h
    · rename_i hc
      split at h
      · rename_i vs hvs
        split at h
        · rename_i v H' C hap
          simp at h; subst h
          refine hard_run (m := Builtin.append_ c.argTypes.toList.toArray o.type (c.args.toList.map a.eval).toArray) ?_ (evAppend_ok hΘ hR hap hC (opds_ok ht hvs))
          have ea : (c.args.toList.map a.eval).toArray = c.args.map a.eval := Array.toList_inj.1 (by simp)
          have ea : (c.args.toList.map a.eval).toArray = c.args.map a.eval := Array.toList_inj.1 (by simp)
          rw [ea]
          unfold execOp; simp [ho, resolve, hc, invoke, builtin]
        · simp at h
      · simp at h
    · rename_i hc
      split at h
      · rename_i vs hvs
        split at h
        · rename_i v H' C hap
          simp at h; subst h
          refine hard_run (m := Builtin.copy_ c.argTypes.toList.toArray o.type (c.args.toList.map a.eval).toArray) ?_ (evCopy_ok hΘ hR hap hC (opds_ok ht hvs))
          have ea : (c.args.toList.map a.eval).toArray = c.args.map a.eval := Array.toList_inj.1 (by simp)
          rw [ea]
          unfold execOp; simp [ho, resolve, hc, invoke, builtin]
        · simp at h
      · simp at h
    · rename_i f hc
      split at h
      · rename_i ι as Hs' v vc hs'
        split at h
        · rename_i vs hvs
          split at h
          · rename_i hok
            simp only [Bool.and_eq_true] at hok
            simp at h; subst h
            obtain ⟨c1, c2, c3⟩ := hC
            have hargs := opds_ok ht hvs
            rw [c1] at hargs
            have hcall := callH_ok hR (Nat.le_refl _) hok.1 hok.2 c2 hargs
            obtain ⟨fn, f1, f2, f3⟩ := c2.fn
            intro K Q hK
            unfold Oper.wp
            rw [run_enter f1 f2 f3 ho hc, Oper.upon_enter]
            refine hcall.mono ?_
            rintro e w' ⟨β', v', rfl, hv, htr⟩
            exact hK β' v' w' (by rw [c3]; exact hv) htr
          · simp at h
        · simp at h
      · rename_i v H' hs'
        split at h
        · rename_i vs hvs
          simp at h; subst h
          obtain ⟨fn, f1, f2, f3⟩ := hC.fn
          intro K Q hK
          unfold Oper.wp
          rw [run_enter f1 f2 f3 ho hc, Oper.upon_enter]
          refine (hC.goes β _ w (opds_ok ht hvs) hR).mono ?_
          rintro e w' ⟨β', v', rfl, hv, htr⟩
          exact hK β' v' w' hv htr
        · simp at h
      · exact quiet h
    · exact quiet h
  · split at h
    · rename_i q' hq
      simp at h; subst h
      exact (evQ_ok hΘ (T := T) (hs := hs) hq hC ht hR.toRelB hR.glob (hkey _)).hard hR
    · simp at h

/-! ### 12. A region in its own order -/
structure ROut where
  T : Slots
  H : Heap
  C : Prop
  hs : List Hint

/-- Is an operation wanted? By a hint, where it has a guard. -/
def evGuard (ops : List Oper) (T : Slots) (o : Oper) (hs : List Hint) : Option (Bool × Prop × List Hint) :=
  match o.guard with
  | none => some (true, True, hs)
  | some (j, want) => match (ops[j]?).bind (·.dst) with
    | some t => match T.getD t none with
      | some (.bool cb) => match hs with
        | .b bit :: hs' => some (bit == want, cb = bit, hs')
        | _ => none
      | some (.tuple _) => some (false, True, hs)
      | _ => none
    | none => none

theorem evGuard_ok {ops : Array Oper} {T : Slots} {o : Oper} {a : Act} {hs hs' : List Hint} {b : Bool} {C : Prop} (h : evGuard ops.toList T o hs = some (b, C, hs')) (hC : C) (ht : TR β T a) : Region.wanted o (yielded ops a.tmps) = b := by
  unfold evGuard at h
  split at h
  · rename_i hg
    simp at h
    simp [Region.wanted, hg, h.1]
  · rename_i j want hg
    split at h
    · rename_i t hd
      have hd' : (ops[j]?).bind (·.dst) = some t := by simpa using hd
      have slot : ∀ {v : Value}, T.getD t none = some v → ∃ v', a.tmps[t]? = some v' ∧ V β v v' := by
        intro v hv
        have hTt : T[t]? = some (some v) := by
          rw [List.getD_eq_getElem?_getD] at hv
          cases hq : T[t]? with
          | none => simp [hq] at hv
          | some u => simp [hq] at hv; rw [hv]
        exact ht.at_ t _ hTt
      split at h
      · rename_i cb hv
        split at h
        · rename_i bit hs''
          simp only [Option.some.injEq, Prod.mk.injEq] at h
          obtain ⟨rfl, rfl, rfl⟩ := h
          subst hC
          obtain ⟨v', h1, h2⟩ := slot hv
          obtain rfl := V_bool.1 h2
          simp [Region.wanted, hg, yielded, hd', h1]
        · simp at h
      · rename_i vs hv
        simp only [Option.some.injEq, Prod.mk.injEq] at h
        obtain ⟨rfl, rfl, rfl⟩ := h
        obtain ⟨v', h1, h2⟩ := slot hv
        obtain ⟨vs', rfl, _⟩ := V_tuple.1 h2
        simp [Region.wanted, hg, yielded, hd', h1]
      · simp at h
    · simp at h

def evSeq (P : Program) (Θ : Types) (ops : List Oper) : List Oper → Slots → Heap → List Hint → Option ROut
  | [], T, H, hs => some ⟨T, H, True, hs⟩
  | o :: rest, T, H, hs =>
    match evGuard ops T o hs with
    | some (true, G, hs) => match evS P Θ T H o.op hs with
      | some q => match evSeq P Θ ops rest (setSlot T o.dst q.v) q.H q.hs with
        | some r => some ⟨r.T, r.H, G ∧ q.C ∧ r.C, r.hs⟩
        | none => none
      | none => none
    | some (false, G, hs) => match evSeq P Θ ops rest (setSlot T o.dst undef) H hs with
      | some r => some ⟨r.T, r.H, G ∧ r.C, r.hs⟩
      | none => none
    | none => none

theorem V_undef : V β undef undef := V_tuple.2 ⟨_, rfl, .nil⟩

theorem put_defers (a : Act) (d : Option Tmp) (v : Value) : (a.put d v).defers = a.defers := by cases d <;> rfl

theorem evSeq_ok {Θ : Types} (hΘ : Θ.Ok P) {ops : Array Oper} {Q : Exit → Act → World → Prop} : ∀ (l : List Oper) (k : Nat) (T : Slots) (H : Heap) (hs : List Hint) (r : ROut) (β : Loc) (a : Act) (w : World), (∀ j : Nat, l[j]? = ops[k + j]?) →
    evSeq P Θ ops.toList l T H hs = some r → r.C → TR β T a → Rel β H w → (∀ β' a' w', TR β' r.T a' → a'.defers = a.defers → Tr β H w β' r.H w' → Q .normal a' w') → wpOps P ops Q (List.range' k l.length) a w
  | [], k, T, H, hs, r, β, a, w, hl, h, hC, ht, hR, hQ => by
    simp [evSeq] at h; subst h
    simp only [List.length_nil, List.range'_zero, wpOps]
    exact hQ β a w ht rfl (Tr.refl hR)
  | o :: rest, k, T, H, hs, r, β, a, w, hl, h, hC, ht, hR, hQ => by
    have ho : ops[k]? = some o := by simpa using (hl 0).symm
    have hl' : ∀ j : Nat, rest[j]? = ops[k + 1 + j]? := fun j => by have := hl (j + 1); simpa [Nat.add_assoc, Nat.add_comm 1 j] using this
    simp only [List.length_cons, List.range'_succ, wpOps, ho]
    unfold evSeq at h
    split at h
    · rename_i G hs1 hg
      split at h
      · rename_i q hq
        split at h
        · rename_i r' hr
          simp at h; subst h
          obtain ⟨c1, c2, c3⟩ := hC
          rw [if_pos (evGuard_ok hg c1 ht)]
          refine .inl (evS_ok hΘ hq c2 ht hR _ _ fun β' v' w' hv htr => ?_)
          refine evSeq_ok hΘ rest (k + 1) _ _ _ r' β' _ w' hl' hr c3 ((ht.mono htr.le).put o.dst hv) htr.rel fun β2 a2 w2 t2 d2 tr2 => hQ β2 a2 w2 t2 (d2.trans (put_defers a o.dst v')) (htr.trans tr2)
        · simp at h
      · simp at h
    · rename_i G hs1 hg
      split at h
      · rename_i r' hr
        simp at h; subst h
        obtain ⟨c1, c3⟩ := hC
        rw [if_neg (by rw [evGuard_ok hg c1 ht]; simp)]
        exact evSeq_ok hΘ rest (k + 1) _ _ _ r' β _ w hl' hr c3 (ht.put o.dst V_undef) hR fun β2 a2 w2 t2 d2 tr2 => hQ β2 a2 w2 t2 (d2.trans (put_defers a o.dst undef)) tr2
      · simp at h
    · simp at h

end
end Go.Proofs.Ytgkplkmjnpofkaa.Abs
namespace Go.Proofs.Ytgkplkmjnpofkaa.Abs
open Go Go.RowKit

/-! ### 13. A region in any order: the phase -/
def maskFrom (l : List Nat) : Nat → Slots → Slots
  | _, [] => []
  | k, v :: r => (if l.contains k then v else none) :: maskFrom l (k + 1) r

theorem maskFrom_len (l : List Nat) : ∀ (k : Nat) (T : Slots), (maskFrom l k T).length = T.length
  | _, [] => rfl
  | k, v :: r => by simp [maskFrom, maskFrom_len l (k + 1) r]
theorem maskFrom_get (l : List Nat) : ∀ (k : Nat) (T : Slots) (j : Nat) (v : Value), (maskFrom l k T)[j]? = some (some v) → T[j]? = some (some v) ∧ k + j ∈ l
  | _, [], j, v, h => by simp [maskFrom] at h
  | k, u :: r, 0, v, h => by
    simp only [maskFrom, List.getElem?_cons_zero, Option.some.injEq] at h
    split at h
    · rename_i hc; subst h; exact ⟨rfl, by simpa using hc⟩
    · cases h
  | k, u :: r, j + 1, v, h => by
    simp only [maskFrom, List.getElem?_cons_succ] at h
    have := maskFrom_get l (k + 1) r j v h
    exact ⟨by simpa using this.1, by have := this.2; rwa [show k + 1 + j = k + (j + 1) by omega] at this⟩

/-- One operation of the phase, as told. -/
structure PE where
  i : Nat
  o : Oper
  T : Slots
  H : Heap
  w : Bool
  v : Value
  N : Option Blk

def evPhase (P : Program) (Θ : Types) (ops : Array Oper) : List Nat → Slots → Heap → List Hint → Option (List PE × ROut)
  | [], T, H, hs => some ([], ⟨T, H, True, hs⟩)
  | i :: l, T, H, hs => match ops.toList[i]? with
    | none => none
    | some o => match evGuard ops.toList (maskFrom (o.looksAt ops) 0 T) o hs with
      | some (true, G, hs1) => match evQ P Θ (maskFrom (o.looksAt ops) 0 T) H o.op hs1 with
        | some q => match evPhase P Θ ops l (setSlot T o.dst q.v) (grow H q.N) q.hs with
          | some (L, r) => some (⟨i, o, maskFrom (o.looksAt ops) 0 T, H, true, q.v, q.N⟩ :: L, ⟨r.T, r.H, (G ∧ q.C) ∧ r.C, r.hs⟩)
          | none => none
        | none => none
      | some (false, G, hs1) => match evPhase P Θ ops l (setSlot T o.dst undef) H hs1 with
        | some (L, r) => some (⟨i, o, maskFrom (o.looksAt ops) 0 T, H, false, undef, none⟩ :: L, ⟨r.T, r.H, G ∧ r.C, r.hs⟩)
        | none => none
      | none => none

section
variable {P : Program} {Θ : Types} {ops : Array Oper}

def PE.Ok (P : Program) (Θ : Types) (ops : Array Oper) (e : PE) : Prop :=
  ops[e.i]? = some e.o ∧ (∃ hs hs' G, evGuard ops.toList e.T e.o hs = some (e.w, G, hs') ∧ G) ∧
  ((e.w = true ∧ ∃ hs q, evQ P Θ e.T e.H e.o.op hs = some q ∧ q.C ∧ q.v = e.v ∧ q.N = e.N) ∨ (e.w = false ∧ e.v = undef ∧ e.N = none))

theorem PE.step (hΘ : Θ.Ok P) {e : PE} (hok : e.Ok P Θ ops) {β : Loc} {a : Act} {w : World} (ht : TR β e.T a) (hR : RelB β e.H w) (hGe : GlobOk β e.H) (hk : β e.H.length = none ∨ e.N = none) {K : Act → World → Prop} {Q : Exit → Act → World → Prop}
    (hK : ∀ β' v' w', StepQ β e.H e.N e.v w β' v' w' → K (a.put e.o.dst v') w') : wpOp P ops Q e.i K a w := by
  obtain ⟨hi, ⟨hs, hs', G, hg, hG⟩, hw⟩ := hok
  have hwant := evGuard_ok hg hG ht
  unfold wpOp
  simp only [hi]
  rw [hwant]
  rcases hw with ⟨hw, hs2, q, hq, hC, hv, hN⟩ | ⟨hw, hv, hN⟩
  · rw [if_pos hw]
    rw [← hN] at hk
    refine .inl (evQ_ok hΘ (o := e.o) hq hC ht hR hGe hk K Q ?_)
    rw [hv, hN]
    exact hK
  · rw [hw]
    simp only [Bool.false_eq_true, if_false]
    refine hK β undef w ⟨Loc.le_refl _, by rw [hv]; exact V_undef, Below.refl _ _, fun κ a h => .inl h, fun B hB => ?_⟩
    rw [hN] at hB; cases hB

structure Phase (P : Program) (Θ : Types) (ops : Array Oper) (T0 : Slots) (H0 : Heap) (L : List PE) (Tm : Slots) (Hm : Heap) : Prop where
  ok : ∀ (p : Nat) e, L[p]? = some e → e.Ok P Θ ops
  told : ∀ (p : Nat) e (t : Nat) v, L[p]? = some e → e.T[t]? = some (some v) → t ∈ e.o.looksAt ops ∧
    ((∃ (q : Nat) (e' : PE), q < p ∧ L[q]? = some e' ∧ e'.o.dst = some t ∧ e'.v = v) ∨ (T0[t]? = some (some v) ∧ ∀ (q : Nat) e', q < p → L[q]? = some e' → e'.o.dst ≠ some t))
  toldm : ∀ (t : Nat) v, Tm[t]? = some (some v) →
    ((∃ (q : Nat) (e' : PE), L[q]? = some e' ∧ e'.o.dst = some t ∧ e'.v = v) ∨ (T0[t]? = some (some v) ∧ ∀ (q : Nat) e', L[q]? = some e' → e'.o.dst ≠ some t))
  len : ∀ (p : Nat) e, L[p]? = some e → e.T.length = T0.length
  lenm : Tm.length = T0.length
  pre : ∀ (p : Nat) e (κ : Nat) B, L[p]? = some e → e.H[κ]? = some (some B) → Hm[κ]? = some (some B)
  new : ∀ (p : Nat) e B, L[p]? = some e → e.N = some B → Hm[e.H.length]? = some (some B)
  base : ∀ κ, κ < H0.length → Hm[κ]? = H0[κ]?
  key : ∀ (p q : Nat) e e', p < q → L[p]? = some e → L[q]? = some e' → e.N ≠ none → e.H.length < e'.H.length
  lo : ∀ (p : Nat) e, L[p]? = some e → H0.length ≤ e.H.length

theorem setSlot_get {T : Slots} {d : Option Tmp} {u v : Value} {t : Nat} (h : (setSlot T d u)[t]? = some (some v)) : (d = some t ∧ u = v) ∨ (d ≠ some t ∧ T[t]? = some (some v)) := by
  cases d with
  | none => exact .inr ⟨by simp, h⟩
  | some d =>
    simp only [setSlot] at h
    rw [List.getElem?_set] at h
    split at h
    · rename_i e; subst e
      split at h
      · simp at h; exact .inl ⟨rfl, h⟩
      · simp at h
    · rename_i e
      exact .inr ⟨fun h' => e (Option.some.inj h'), h⟩
theorem setSlot_len (T : Slots) (d : Option Tmp) (u : Value) : (setSlot T d u).length = T.length := by cases d <;> simp [setSlot]

theorem Phase.cons {T0 : Slots} {H0 : Heap} {e : PE} {L : List PE} {Tm : Slots} {Hm : Heap} (hok : e.Ok P Θ ops) (hT : e.T = maskFrom (e.o.looksAt ops) 0 T0) (hH : e.H = H0)
    (h : Phase P Θ ops (setSlot T0 e.o.dst e.v) (grow H0 e.N) L Tm Hm) : Phase P Θ ops T0 H0 (e :: L) Tm Hm := by
  have glen : (grow H0 e.N).length = H0.length + (if e.N = none then 0 else 1) := by cases e.N <;> simp [grow]
  have gbase : ∀ κ, κ < H0.length → Hm[κ]? = H0[κ]? := fun κ hκ => by
    rw [h.base κ (by rw [glen]; omega)]
    cases e.N with
    | none => rfl
    | some B => simp only [grow]; rw [List.getElem?_append_left hκ]
  refine ⟨?_, ?_, ?_, ?_, ?_, ?_, ?_, gbase, ?_, ?_⟩
  · intro p e' he
    cases p with
    | zero => simp at he; subst he; exact hok
    | succ p => exact h.ok p e' (by simpa using he)
  · intro p e' t v he hv
    cases p with
    | zero =>
      simp at he; subst he
      rw [hT] at hv
      have := maskFrom_get _ _ _ _ _ hv
      exact ⟨by simpa using this.2, .inr ⟨this.1, fun q e' hq => by omega⟩⟩
    | succ p =>
      obtain ⟨h1, h2⟩ := h.told p e' t v (by simpa using he) hv
      refine ⟨h1, ?_⟩
      rcases h2 with ⟨q, e2, hq, h3, h4, h5⟩ | ⟨h3, h4⟩
      · exact .inl ⟨q + 1, e2, by omega, by simpa using h3, h4, h5⟩
      · rcases setSlot_get h3 with ⟨h5, h6⟩ | ⟨h5, h6⟩
        · exact .inl ⟨0, e, by omega, rfl, h5, h6⟩
        · refine .inr ⟨h6, fun q e2 hq h7 => ?_⟩
          cases q with
          | zero => simp at h7; subst h7; exact h5
          | succ q => exact h4 q e2 (by omega) (by simpa using h7)
  · intro t v hv
    rcases h.toldm t v hv with ⟨q, e2, h3, h4, h5⟩ | ⟨h3, h4⟩
    · exact .inl ⟨q + 1, e2, by simpa using h3, h4, h5⟩
    · rcases setSlot_get h3 with ⟨h5, h6⟩ | ⟨h5, h6⟩
      · exact .inl ⟨0, e, rfl, h5, h6⟩
      · refine .inr ⟨h6, fun q e2 h7 => ?_⟩
        cases q with
        | zero => simp at h7; subst h7; exact h5
        | succ q => exact h4 q e2 (by simpa using h7)
  · intro p e' he
    cases p with
    | zero => simp at he; subst he; rw [hT, maskFrom_len]
    | succ p => rw [h.len p e' (by simpa using he), setSlot_len]
  · rw [h.lenm, setSlot_len]
  · intro p e' κ B he hB
    cases p with
    | zero =>
      simp at he; subst he
      rw [hH] at hB
      have hlt := (List.getElem?_eq_some_iff.1 hB).1
      rw [gbase κ hlt, hB]
    | succ p => exact h.pre p e' κ B (by simpa using he) hB
  · intro p e' B he hB
    cases p with
    | zero =>
      simp at he; subst he
      rw [hH, h.base _ (by rw [glen]; simp [hB]), hB]
      simp [grow]
    | succ p => exact h.new p e' B (by simpa using he) hB
  · intro p q e1 e2 hpq h1 h2 hN
    cases q with
    | zero => omega
    | succ q =>
      have h2' : L[q]? = some e2 := by simpa using h2
      cases p with
      | zero =>
        simp at h1; subst h1
        have := h.lo q e2 h2'
        rw [glen, if_neg hN] at this
        rw [hH]; omega
      | succ p => exact h.key p q e1 e2 (by omega) (by simpa using h1) h2' hN
  · intro p e' he
    cases p with
    | zero => simp at he; subst he; rw [hH]; exact Nat.le_refl _
    | succ p =>
      have := h.lo p e' (by simpa using he)
      rw [glen] at this; omega

theorem evPhase_spec : ∀ (l : List Nat) (T : Slots) (H : Heap) (hs : List Hint) (L : List PE) (r : ROut), evPhase P Θ ops l T H hs = some (L, r) → r.C → Phase P Θ ops T H L r.T r.H ∧ L.map (·.i) = l
  | [], T, H, hs, L, r, h, hC => by
    simp [evPhase] at h
    obtain ⟨rfl, rfl⟩ := h
    exact ⟨⟨by simp, by simp, by simp, by simp, rfl, by simp, by simp, fun _ _ => rfl, by simp, by simp⟩, rfl⟩
  | i :: l, T, H, hs, L, r, h, hC => by
    unfold evPhase at h
    split at h
    · simp at h
    · rename_i o ho
      have ho' : ops[i]? = some o := by simpa using ho
      split at h
      · rename_i G hs1 hg
        split at h
        · rename_i q hq
          split at h
          · rename_i L' r' hr
            simp at h
            obtain ⟨rfl, rfl⟩ := h
            obtain ⟨⟨c1, c2⟩, c3⟩ := hC
            obtain ⟨k1, k2⟩ := evPhase_spec l _ _ _ L' r' hr c3
            exact ⟨Phase.cons ⟨ho', ⟨hs, hs1, G, hg, c1⟩, .inl ⟨rfl, hs1, q, hq, c2, rfl, rfl⟩⟩ rfl rfl k1, by simp [k2]⟩
          · simp at h
        · simp at h
      · rename_i G hs1 hg
        split at h
        · rename_i L' r' hr
          simp at h
          obtain ⟨rfl, rfl⟩ := h
          obtain ⟨c1, c3⟩ := hC
          obtain ⟨k1, k2⟩ := evPhase_spec l _ _ _ L' r' hr c3
          exact ⟨Phase.cons ⟨ho', ⟨hs, hs1, G, hg, c1⟩, .inr ⟨rfl, rfl, rfl⟩⟩ rfl rfl (by simpa [grow] using k1), by simp [k2]⟩
        · simp at h
      · simp at h

end
end Go.Proofs.Ytgkplkmjnpofkaa.Abs
namespace Go.Proofs.Ytgkplkmjnpofkaa.Abs
open Go Go.RowKit

/-! ### 14. Which orders there are -/
def stepMask (M : List Nat) (s : Nat) (e : Edge) : Nat := if Region.binds .any e then s ||| 2 ^ e.on ||| M.getD e.on 0 else s
def maskOf (M : List Nat) (o : Oper) : Nat := o.after.toList.foldl (stepMask M) 0
def masks : List Oper → List Nat → List Nat
  | [], acc => acc
  | o :: r, acc => masks r (acc ++ [maskOf acc o])
def masksOk (M : List Nat) : List Oper → List Nat → Bool
  | [], [] => true
  | o :: r, m :: ms => (maskOf M o == m) && masksOk M r ms
  | _, _ => false

theorem masksOk_get {M : List Nat} : ∀ (ops : List Oper) (ms : List Nat), masksOk M ops ms = true → ∀ (j : Nat) (o : Oper), ops[j]? = some o → ms.getD j 0 = maskOf M o
  | [], [], _, j, o, h => by simp at h
  | o :: r, m :: ms, hk, j, o', h => by
    simp [masksOk] at hk
    cases j with
    | zero => simp at h; subst h; simp [hk.1]
    | succ j => simpa using masksOk_get r ms hk.2 j o' (by simpa using h)
  | [], _ :: _, hk, _, _, _ => by simp [masksOk] at hk
  | _ :: _, [], hk, _, _, _ => by simp [masksOk] at hk

theorem fold_bit (M : List Nat) (b : Nat) : ∀ (l : List Edge) (s : Nat), (l.foldl (stepMask M) s).testBit b = true → s.testBit b = true ∨ ∃ e ∈ l, Region.binds .any e = true ∧ (b = e.on ∨ (M.getD e.on 0).testBit b = true)
  | [], s, h => .inl h
  | e :: l, s, h => by
    rw [List.foldl_cons] at h
    rcases fold_bit M b l _ h with h1 | ⟨e', h1, h2⟩
    · unfold stepMask at h1
      split at h1
      · rename_i hb
        simp only [Nat.testBit_or, Bool.or_eq_true] at h1
        rcases h1 with (h1 | h1) | h1
        · exact .inl h1
        · refine .inr ⟨e, by simp, hb, .inl ?_⟩
          rw [Nat.testBit_two_pow] at h1
          simpa using (of_decide_eq_true h1).symm
        · exact .inr ⟨e, by simp, hb, .inr h1⟩
      · exact .inl h1
    · exact .inr ⟨e', by simp [h1], h2⟩

/-- Are the phase's operations apart, each from those behind it, unless it must come first? -/
def pairOk (ops : Array Oper) (M : List Nat) : List Nat → Bool
  | [] => true
  | i :: r => (match ops.toList[i]? with
    | some x => r.all fun j => match ops.toList[j]? with
      | some y => (i != j) && ((M.getD j 0).testBit i || x.apart ops y) && (match x.dst with | some d => y.dst != some d | none => true)
      | none => false
    | none => false) && pairOk ops M r
/-- Does each stand behind all that must come before it? -/
def downOk (ops : Array Oper) : List Nat → List Nat → Bool
  | _, [] => true
  | seen, i :: r => (match ops.toList[i]? with
    | some x => x.after.toList.all fun e => !Region.binds .any e || seen.contains e.on
    | none => false) && downOk ops (seen ++ [i]) r
/-- What follows the phase waits for it. -/
def sufOk (ops : Array Oper) (M : List Nat) (ph suf : List Nat) : Bool :=
  suf.all fun i => match ops.toList[i]? with
    | some x => (x.after.toList.any fun e => Region.binds .any e && !ph.contains e.on) || ph.all fun j => (M.getD i 0).testBit j
    | none => false

def phaseOk (ops : Array Oper) (ph suf : List Nat) : Bool :=
  masksOk (masks ops.toList []) ops.toList (masks ops.toList []) && (pairOk ops (masks ops.toList []) ph && (downOk ops [] ph && (sufOk ops (masks ops.toList []) ph suf &&
  (((List.range ops.toList.length).all fun i => ph.contains i || suf.contains i) && (ph.length + suf.length == ops.toList.length)))))

section
variable {P : Program} {Θ : Types} {ops : Array Oper}

structure OrdOk (ops : Array Oper) (M : List Nat) (ph suf : List Nat) : Prop where
  masks : ∀ (j : Nat) o, ops[j]? = some o → M.getD j 0 = maskOf M o
  pair : ∀ (p q i j : Nat) x y, p < q → ph[p]? = some i → ph[q]? = some j → ops[i]? = some x → ops[j]? = some y → i ≠ j ∧ ((M.getD j 0).testBit i = true ∨ x.apart ops y = true) ∧ (∀ d, x.dst = some d → y.dst ≠ some d)
  down : ∀ (p i : Nat) x e, ph[p]? = some i → ops[i]? = some x → e ∈ x.after → Region.binds .any e = true → ∃ q, q < p ∧ ph[q]? = some e.on
  tail : ∀ (i : Nat) x, i ∈ suf → ops[i]? = some x → (∃ e ∈ x.after, Region.binds .any e = true ∧ e.on ∉ ph) ∨ ∀ j ∈ ph, (M.getD i 0).testBit j = true
  all : ∀ i, i < ops.size → i ∈ ph ∨ i ∈ suf
  size : ph.length + suf.length = ops.size

theorem pairOk_spec {M : List Nat} : ∀ (l : List Nat), pairOk ops M l = true → ∀ (p q i j : Nat) x y, p < q → l[p]? = some i → l[q]? = some j → ops[i]? = some x → ops[j]? = some y → i ≠ j ∧ ((M.getD j 0).testBit i = true ∨ x.apart ops y = true) ∧ (∀ d, x.dst = some d → y.dst ≠ some d)
  | [], _, p, q, i, j, x, y, _, h1, _, _, _ => by simp at h1
  | i' :: r, hk, p, q, i, j, x, y, hpq, h1, h2, h3, h4 => by
    unfold pairOk at hk
    rw [Bool.and_eq_true] at hk
    cases q with
    | zero => omega
    | succ q =>
      have h2' : r[q]? = some j := by simpa using h2
      cases p with
      | zero =>
        simp at h1; subst h1
        have hk1 := hk.1
        rw [show ops.toList[i']? = some x by simpa using h3] at hk1
        simp only [List.all_eq_true] at hk1
        have := hk1 j (List.mem_of_getElem? h2')
        rw [show ops.toList[j]? = some y by simpa using h4] at this
        simp only [Bool.and_eq_true, bne_iff_ne, ne_eq, Bool.or_eq_true] at this
        refine ⟨this.1.1, this.1.2, fun d hd => ?_⟩
        have h5 := this.2
        rw [hd] at h5
        simpa using h5
      | succ p => exact pairOk_spec r hk.2 p q i j x y (by omega) (by simpa using h1) h2' h3 h4

theorem downOk_spec : ∀ (l seen : List Nat), downOk ops seen l = true → ∀ (p i : Nat) x e, l[p]? = some i → ops[i]? = some x → e ∈ x.after → Region.binds .any e = true → e.on ∈ seen ∨ ∃ q, q < p ∧ l[q]? = some e.on
  | [], _, _, p, i, x, e, h1, _, _, _ => by simp at h1
  | i' :: r, seen, hk, p, i, x, e, h1, h2, h3, h4 => by
    unfold downOk at hk
    rw [Bool.and_eq_true] at hk
    cases p with
    | zero =>
      simp at h1; subst h1
      have hk1 := hk.1
      rw [show ops.toList[i']? = some x by simpa using h2] at hk1
      simp only [List.all_eq_true] at hk1
      have := hk1 e (by simpa using h3)
      simp [h4] at this
      exact .inl this
    | succ p =>
      rcases downOk_spec r _ hk.2 p i x e (by simpa using h1) h2 h3 h4 with h | ⟨q, hq, h⟩
      · simp at h
        rcases h with h | h
        · exact .inl h
        · exact .inr ⟨0, by omega, by simp [h]⟩
      · exact .inr ⟨q + 1, by omega, by simpa using h⟩

theorem phaseOk_spec {ph suf : List Nat} (h : phaseOk ops ph suf = true) : OrdOk ops (masks ops.toList []) ph suf := by
  unfold phaseOk at h
  simp only [Bool.and_eq_true] at h
  obtain ⟨h1, h2, h3, h4, h5, h6⟩ := h
  refine ⟨fun j o ho => masksOk_get _ _ h1 j o (by simpa using ho), fun p q i j x y => pairOk_spec _ h2 p q i j x y, fun p i x e e1 e2 e3 e4 => ?_, fun i x hi hx => ?_, fun i hi => ?_, by simpa using h6⟩
  · rcases downOk_spec _ _ h3 p i x e e1 e2 e3 e4 with h | h
    · simp at h
    · exact h
  · unfold sufOk at h4
    rw [List.all_eq_true] at h4
    have := h4 i hi
    rw [show ops.toList[i]? = some x by simpa using hx] at this
    simp only [Bool.or_eq_true, List.any_eq_true, Bool.and_eq_true, List.all_eq_true] at this
    rcases this with ⟨e, e1, e2, e3⟩ | h
    · exact .inl ⟨e, by simpa using e1, e2, by simpa using e3⟩
    · exact .inr h
  · rw [List.all_eq_true] at h5
    have := h5 i (by simpa using hi)
    simpa using this

/-! ### 15. The phase, in any order -/
structure Inv (ops : Array Oper) (M : List Nat) (T0 : Slots) (H0 : Heap) (L : List PE) (Hm : Heap) (β0 : Loc) (a0 : Act) (w0 : World) (listed : Array Bool) (β : Loc) (a : Act) (w : World) : Prop where
  size : listed.size = ops.size
  sub : ∀ i, listed.getD i false = true → i ∈ L.map (·.i)
  closed : ∀ i b, listed.getD i false = true → (M.getD i 0).testBit b = true → listed.getD b false = true
  rel : RelB β Hm w
  le : β0.le β
  ext : WExt w0 w
  keys : ∀ κ A, β κ = some A → β0 κ = some A ∨ (w0.heap.size ≤ A.addr.block ∧ ∃ e ∈ L, listed.getD e.i false = true ∧ e.N ≠ none ∧ κ = e.H.length)
  tmps : T0.length ≤ a.tmps.size
  vals : ∀ (p : Nat) e d, L[p]? = some e → listed.getD e.i false = true → e.o.dst = some d → d < T0.length → ∃ v', a.tmps[d]? = some v' ∧ V β e.v v'
  base : ∀ (t : Nat) v, T0[t]? = some (some v) → (∀ e ∈ L, listed.getD e.i false = true → e.o.dst ≠ some t) → ∃ v', a.tmps[t]? = some v' ∧ V β v v'
  defers : a.defers = a0.defers

theorem getD_lt {l : Array Bool} {i : Nat} {d : Bool} (h : i < l.size) : l.getD i d = l[i]'h := by simp [Array.getD, h]
theorem getD_true_false {l : Array Bool} {i : Nat} (h : l.getD i true = false) : l.getD i false = false := by
  by_cases hi : i < l.size
  · rw [getD_lt hi] at h ⊢; exact h
  · simp [Array.getD, hi] at h
theorem getD_set_iff {l : Array Bool} {i j : Nat} (hi : i < l.size) : (l.setIfInBounds i true).getD j false = true ↔ j = i ∨ l.getD j false = true := by
  by_cases h : i = j
  · subst h; simp [hi]
  · rw [getD_set_ne false h]
    constructor
    · exact .inr
    · rintro (h' | h')
      · exact absurd h'.symm h
      · exact h'

theorem count_lt {f g : Nat → Bool} : ∀ (l : List Nat), (∀ x ∈ l, g x = true → f x = true) → (∃ x ∈ l, f x = true ∧ g x = false) → l.countP g < l.countP f
  | [], _, ⟨x, h, _⟩ => by simp at h
  | y :: l, hm, ⟨x, hx, hf, hg⟩ => by
    have hle : ∀ (l : List Nat), (∀ x ∈ l, g x = true → f x = true) → l.countP g ≤ l.countP f := by
      intro l
      induction l with
      | nil => intro _; simp
      | cons z l ih =>
        intro h
        have := ih fun x hx => h x (by simp [hx])
        rw [List.countP_cons, List.countP_cons]
        have h2 := h z (by simp)
        cases hg : g z <;> cases hf : f z <;> simp_all <;> omega
    rw [List.countP_cons, List.countP_cons]
    rcases List.mem_cons.1 hx with rfl | hx
    · have := hle l fun x hx => hm x (by simp [hx])
      rw [hf, hg]; simp; omega
    · have := count_lt l (fun x hx => hm x (by simp [hx])) ⟨x, hx, hf, hg⟩
      have h2 := hm y (by simp)
      cases hg : g y <;> cases hf : f y <;> simp_all <;> omega

theorem first_not {α : Type} (f : α → Bool) : ∀ (l : List α), (∃ x ∈ l, f x = false) → ∃ (p : Nat) (x : α), l[p]? = some x ∧ f x = false ∧ ∀ (q : Nat) y, q < p → l[q]? = some y → f y = true
  | [], ⟨x, h, _⟩ => by simp at h
  | y :: l, ⟨x, hx, hf⟩ => by
    cases hy : f y with
    | false => exact ⟨0, y, rfl, hy, fun q _ h => by omega⟩
    | true =>
      have : x ∈ l := by
        rcases List.mem_cons.1 hx with rfl | h
        · rw [hf] at hy; cases hy
        · exact h
      obtain ⟨p, z, h1, h2, h3⟩ := first_not f l ⟨x, this, hf⟩
      refine ⟨p + 1, z, by simpa using h1, h2, fun q u hq hu => ?_⟩
      cases q with
      | zero => simp at hu; subst hu; exact hy
      | succ q => exact h3 q u (by omega) (by simpa using hu)

section
variable {M : List Nat} {T0 : Slots} {H0 : Heap} {L : List PE} {Tm : Slots} {Hm : Heap} {β0 : Loc} {a0 : Act} {w0 : World} {ph suf : List Nat}

theorem OrdOk.uniq (G : OrdOk ops M ph suf) (hl : L.map (·.i) = ph) (Ph : Phase P Θ ops T0 H0 L Tm Hm) {p q : Nat} {e e' : PE} (h1 : L[p]? = some e) (h2 : L[q]? = some e') (hi : e.i = e'.i) : p = q := by
  have f1 : ph[p]? = some e.i := by rw [← hl]; simp [h1]
  have f2 : ph[q]? = some e'.i := by rw [← hl]; simp [h2]
  have o1 := (Ph.ok p e h1).1
  have o2 := (Ph.ok q e' h2).1
  rcases Nat.lt_trichotomy p q with h | h | h
  · exact absurd hi (G.pair p q _ _ _ _ h f1 f2 o1 o2).1
  · exact h
  · exact absurd hi.symm (G.pair q p _ _ _ _ h f2 f1 o2 o1).1

/-- One operation of the phase, that is ready: what it leaves. -/
theorem Inv.step (hΘ : Θ.Ok P) (G : OrdOk ops M ph suf) (hl : L.map (·.i) = ph) (Ph : Phase P Θ ops T0 H0 L Tm Hm) (hdom : ∀ κ, H0.length ≤ κ → β0 κ = none) (hG0 : GlobOk β0 H0) (hnw : ∀ κ B, H0.length ≤ κ → Hm[κ]? = some (some B) → B.wr = true) {listed : Array Bool} {β : Loc} {a : Act} {w : World}
    (I : Inv ops M T0 H0 L Hm β0 a0 w0 listed β a w) {p : Nat} {e : PE} (hp : L[p]? = some e) (hun : listed.getD e.i false = false) (hpre : ∀ g ∈ e.o.after, Region.binds .any g = true → listed.getD g.on false = true)
    {K : Act → World → Prop} {Q : Exit → Act → World → Prop} (hK : ∀ β' a' w', Inv ops M T0 H0 L Hm β0 a0 w0 (listed.setIfInBounds e.i true) β' a' w' → K a' w') : wpOp P ops Q e.i K a w := by
  have fp : ph[p]? = some e.i := by rw [← hl]; simp [hp]
  have op := (Ph.ok p e hp).1
  have hlt : e.i < listed.size := by rw [I.size]; exact (Array.getElem?_eq_some_iff.1 op).1
  have maskdown : ∀ b, (M.getD e.i 0).testBit b = true → listed.getD b false = true := by
    intro b hb
    rw [G.masks e.i e.o op] at hb
    rcases fold_bit M b _ _ hb with h | ⟨g, h1, h2, h3⟩
    · simp at h
    · have hg := hpre g (by simpa using h1) h2
      rcases h3 with rfl | h3
      · exact hg
      · exact I.closed _ _ hg h3
  have lookOf : ∀ {q : Nat} {e' : PE} {t : Nat}, L[q]? = some e' → q ≠ p → e'.o.dst = some t → t ∈ e.o.looksAt ops → (q < p → listed.getD e'.i false = true) ∧ (p < q → listed.getD e'.i false = false) := by
    intro q e' t hq hne hd ht
    have fq : ph[q]? = some e'.i := by rw [← hl]; simp [hq]
    have oq := (Ph.ok q e' hq).1
    refine ⟨fun hlt => ?_, fun hlt => ?_⟩
    · rcases (G.pair q p _ _ _ _ hlt fq fp oq op).2.1 with h | h
      · exact maskdown _ h
      · exact absurd ht ((Oper.apart_spec h).1 t hd)
    · rcases (G.pair p q _ _ _ _ hlt fp fq op oq).2.1 with h | h
      · cases hc : listed.getD e'.i false with
        | false => rfl
        | true =>
          have := I.closed _ _ hc h
          rw [hun] at this; cases this
      · exact absurd ht ((Oper.apart_spec h).2.2 t hd)
  have hT : TR β e.T a := by
    refine ⟨by rw [Ph.len p e hp]; exact I.tmps, fun t v hv => ?_⟩
    have htlt : t < T0.length := by
      have := (List.getElem?_eq_some_iff.1 hv).1
      rwa [Ph.len p e hp] at this
    obtain ⟨ht, h⟩ := Ph.told p e t v hp hv
    rcases h with ⟨q, e', hq, h1, h2, h3⟩ | ⟨h1, h2⟩
    · have := (lookOf h1 (by omega) h2 ht).1 hq
      obtain ⟨v', g1, g2⟩ := I.vals q e' t h1 this h2 htlt
      exact ⟨v', g1, by rw [← h3]; exact g2⟩
    · refine I.base t v h1 fun e' he' hli hd => ?_
      obtain ⟨q, hq⟩ := List.getElem?_of_mem he'
      rcases Nat.lt_trichotomy q p with h | h | h
      · exact h2 q e' h hq hd
      · subst h; rw [hp] at hq; cases hq; rw [hun] at hli; cases hli
      · have := (lookOf hq (by omega) hd ht).2 h
        rw [this] at hli; cases hli
  have hRe : RelB β e.H w := by
    refine ⟨fun κ B A h1 h2 => I.rel.blk κ B A (Ph.pre p e κ B hp h1) h2, fun κ κ' B B' A A' h1 h2 h3 h4 => I.rel.sep κ κ' B B' A A' (Ph.pre p e κ B hp h1) (Ph.pre p e κ' B' hp h2) h3 h4, I.rel.spot⟩
  have hGe : GlobOk β e.H := by
    intro κ B g h1 h2 h3
    have h4 := Ph.pre p e κ B hp h1
    rcases Nat.lt_or_ge κ H0.length with hl | hl
    · rw [Ph.base κ hl] at h4
      exact I.le _ _ (hG0 κ B g h4 h2 h3)
    · rw [hnw κ B hl h4] at h2; cases h2
  have hkey : β e.H.length = none ∨ e.N = none := by
    by_cases hN : e.N = none
    · exact .inr hN
    refine .inl ?_
    cases hb : β e.H.length with
    | none => rfl
    | some A =>
      exfalso
      rcases I.keys _ _ hb with h | ⟨_, e', he', h1, h2, h3⟩
      · rw [hdom _ (Ph.lo p e hp)] at h; cases h
      · obtain ⟨q, hq⟩ := List.getElem?_of_mem he'
        rcases Nat.lt_trichotomy q p with h | h | h
        · have := Ph.key q p e' e h hq hp h2; omega
        · subst h; rw [hp] at hq; cases hq; rw [hun] at h1; cases h1
        · have := Ph.key p q e e' h hp hq hN; omega
  refine PE.step hΘ (Ph.ok p e hp) hT hRe hGe hkey fun β' v' w' hs => hK β' _ w' ?_
  have hset : ∀ {j : Nat}, (listed.setIfInBounds e.i true).getD j false = true ↔ j = e.i ∨ listed.getD j false = true := getD_set_iff hlt
  have hold : ∀ κ A, β' κ = some A → (β κ = some A) ∨ (κ = e.H.length ∧ β κ = none ∧ ∃ B, e.N = some B ∧ Hm[κ]? = some (some B) ∧ BlkAt β' w' A B ∧ w.heap.size ≤ A.addr.block) := by
    intro κ A hA
    rcases hs.only κ A hA with h | ⟨h1, h2, h3, h4⟩
    · exact .inl h
    · refine .inr ⟨h1, ?_, ?_⟩
      · rw [h1]; exact hkey.resolve_right h2
      · cases hN : e.N with
        | none => exact absurd hN h2
        | some B =>
          obtain ⟨A2, g1, g2, g3, g4, g5⟩ := hs.new B hN
          rw [← h1, hA] at g1; cases g1
          exact ⟨B, rfl, by rw [h1]; exact Ph.new p e B hp hN, g2, g3⟩
  have hnodst : ∀ {q : Nat} {e' : PE} {d : Nat}, L[q]? = some e' → q ≠ p → e.o.dst = some d → e'.o.dst ≠ some d := by
    intro q e' d hq hne hd hd'
    have fq : ph[q]? = some e'.i := by rw [← hl]; simp [hq]
    have oq := (Ph.ok q e' hq).1
    rcases Nat.lt_or_gt_of_ne hne with h | h
    · exact (G.pair q p _ _ _ _ h fq fp oq op).2.2 d hd' hd
    · exact (G.pair p q _ _ _ _ h fp fq op oq).2.2 d hd hd'
  refine ⟨by rw [Array.size_setIfInBounds]; exact I.size, ?_, ?_, ⟨?_, ?_, ?_⟩, fun κ A h => hs.le κ A (I.le κ A h), ?_, ?_, ?_, ?_, ?_, by rw [put_defers]; exact I.defers⟩
  · intro i hi
    rcases hset.1 hi with rfl | h
    · rw [hl]; exact List.mem_of_getElem? fp
    · exact I.sub i h
  · intro i b hi hb
    refine hset.2 (.inr ?_)
    rcases hset.1 hi with rfl | h
    · exact maskdown b hb
    · exact I.closed i b h hb
  · intro κ B A h1 h2
    rcases hold κ A h2 with h | ⟨_, _, B', _, h4, h5, _⟩
    · exact (I.rel.blk κ B A h1 h).ext hs.le hs.ext
    · rw [h1] at h4; cases h4; exact h5
  · intro κ κ' B B' A A' h1 h2 h3 h4 hne hw hn
    rcases hold κ A h3 with f | ⟨f1, _, B1, _, f4, f5, f6⟩ <;> rcases hold κ' A' h4 with g | ⟨g1, _, B2, _, g4, g5, g6⟩
    · exact I.rel.sep κ κ' B B' A A' h1 h2 f g hne hw hn
    · have := (I.rel.blk κ B A h1 f).lt (.inl hw)
      omega
    · have := (I.rel.blk κ' B' A' h2 g).lt hn
      omega
    · omega
  · intro κ A h
    rcases hold κ A h with h | ⟨_, _, B', _, _, h5, _⟩
    · exact I.rel.spot κ A h
    · exact h5.1
  · have h1 := I.ext; have h2 := hs.ext
    exact ⟨h2.os.trans h1.os, h2.tape.trans h1.tape, h2.output.trans h1.output, Nat.le_trans h1.size h2.size, fun k hk => (h2.block k (Nat.lt_of_lt_of_le hk h1.size)).trans (h1.block k hk)⟩
  · intro κ A h
    rcases hold κ A h with h | ⟨f1, _, B1, f3, f4, f5, f6⟩
    · rcases I.keys κ A h with h | ⟨h0, e', h1, h2, h3⟩
      · exact .inl h
      · exact .inr ⟨h0, e', h1, hset.2 (.inr h2), h3⟩
    · exact .inr ⟨Nat.le_trans I.ext.size f6, e, List.mem_of_getElem? hp, hset.2 (.inl rfl), by rw [f3]; simp, f1⟩
  · cases hd : e.o.dst with
    | none => exact I.tmps
    | some d => simpa [Act.put] using I.tmps
  · intro q e' d hq hli hd hdl
    by_cases hqp : q = p
    · subst hqp
      rw [hp] at hq; cases hq
      refine ⟨v', ?_, hs.val⟩
      rw [hd]
      simp only [Act.put]
      have := I.tmps
      rw [Array.getElem?_setIfInBounds_self_of_lt (Nat.lt_of_lt_of_le hdl this)]
    · have hli' : listed.getD e'.i false = true := by
        rcases hset.1 hli with h | h
        · exact absurd (G.uniq hl Ph hq hp h) hqp
        · exact h
      obtain ⟨v2, g1, g2⟩ := I.vals q e' d hq hli' hd hdl
      refine ⟨v2, ?_, g2.mono hs.le⟩
      cases hd2 : e.o.dst with
      | none => exact g1
      | some d2 =>
        have : d2 ≠ d := fun h => hnodst hq hqp hd2 (by rw [hd, h])
        simp only [Act.put]
        rw [Array.getElem?_setIfInBounds_ne this]; exact g1
  · intro t v hv hno
    obtain ⟨v2, g1, g2⟩ := I.base t v hv fun e' he' hli => hno e' he' (hset.2 (.inr hli))
    refine ⟨v2, ?_, g2.mono hs.le⟩
    cases hd2 : e.o.dst with
    | none => exact g1
    | some d2 =>
      have : d2 ≠ t := fun h => hno e (List.mem_of_getElem? hp) (hset.2 (.inl rfl)) (by rw [hd2, h])
      simp only [Act.put]
      rw [Array.getElem?_setIfInBounds_ne this]; exact g1

/-- At the phase's end. -/
theorem Inv.done (Ph : Phase P Θ ops T0 H0 L Tm Hm) (hR0 : Rel β0 H0 w0) {listed : Array Bool} {β : Loc} {a : Act} {w : World} (hlen : H0.length ≤ Hm.length) (hnw : ∀ κ B, H0.length ≤ κ → Hm[κ]? = some (some B) → B.wr = true)
    (I : Inv ops M T0 H0 L Hm β0 a0 w0 listed β a w) (hall : ∀ e ∈ L, listed.getD e.i false = true) : TR β Tm a ∧ Tr β0 H0 w0 β Hm w := by
  have hlo : ∀ κ A, β κ = some A → β0 κ = some A ∨ (H0.length ≤ κ ∧ κ < Hm.length ∧ w0.heap.size ≤ A.addr.block) := by
    intro κ A h
    rcases I.keys κ A h with h | ⟨h0, e, h1, h2, h3, h4⟩
    · exact .inl h
    · obtain ⟨q, hq⟩ := List.getElem?_of_mem h1
      refine .inr ⟨by rw [h4]; exact Ph.lo q e hq, ?_, h0⟩
      cases hN : e.N with
      | none => exact absurd hN h3
      | some B => rw [h4]; exact (List.getElem?_eq_some_iff.1 (Ph.new q e B hq hN)).1
  refine ⟨⟨by rw [Ph.lenm]; exact I.tmps, fun t v hv => ?_⟩, ⟨I.le, hlen, ?_, ⟨I.rel, ?_, ?_⟩, I.ext.os, I.ext.tape, I.ext.output, I.ext.size, fun b hb _ => I.ext.block b hb, ?_⟩⟩
  · have htlt : t < T0.length := by
      have := (List.getElem?_eq_some_iff.1 hv).1
      rwa [Ph.lenm] at this
    rcases Ph.toldm t v hv with ⟨q, e, h1, h2, h3⟩ | ⟨h1, h2⟩
    · obtain ⟨v', g1, g2⟩ := I.vals q e t h1 (hall e (List.mem_of_getElem? h1)) h2 htlt
      exact ⟨v', g1, by rw [← h3]; exact g2⟩
    · refine I.base t v h1 fun e he _ => ?_
      obtain ⟨q, hq⟩ := List.getElem?_of_mem he
      exact h2 q e hq
  · intro κ A hκ h
    rcases hlo κ A h with h | ⟨h, _⟩
    · exact h
    · omega
  · intro κ hκ
    cases hb : β κ with
    | none => rfl
    | some A =>
      exfalso
      rcases hlo κ A hb with h | ⟨_, h, _⟩
      · rw [hR0.dom κ (by omega)] at h; cases h
      · omega
  · intro κ B g h1 h2 h3
    rcases Nat.lt_or_ge κ H0.length with hl | hl
    · rw [Ph.base κ hl] at h1
      exact I.le _ _ (hR0.glob κ B g h1 h2 h3)
    · rw [hnw κ B hl h1] at h2; cases h2
  · intro κ B A h1 h2 h3
    rcases hlo κ A h3 with h | ⟨_, _, h⟩
    · have hlt : κ < H0.length := by
        rcases Nat.lt_or_ge κ H0.length with g | g
        · exact g
        · rw [hR0.dom κ g] at h; cases h
      refine .inr ⟨κ, B, A, ?_, h2, h, rfl⟩
      rw [← Ph.base κ hlt]; exact h1
    · exact .inl h

theorem phase_run (hΘ : Θ.Ok P) (G : OrdOk ops M ph suf) (hl : L.map (·.i) = ph) (Ph : Phase P Θ ops T0 H0 L Tm Hm) (hdom : ∀ κ, H0.length ≤ κ → β0 κ = none) (hG0 : GlobOk β0 H0) (hnw : ∀ κ B, H0.length ≤ κ → Hm[κ]? = some (some B) → B.wr = true) {Q : Exit → Act → World → Prop}
    (hdone : ∀ (fuel : Nat) listed β a w, suf.length ≤ fuel → Inv ops M T0 H0 L Hm β0 a0 w0 listed β a w → (∀ e ∈ L, listed.getD e.i false = true) → wpAny P .any ops Q fuel listed a w) :
    ∀ (fuel : Nat) listed β a w, Inv ops M T0 H0 L Hm β0 a0 w0 listed β a w → ph.countP (fun j => !listed.getD j false) + suf.length ≤ fuel → wpAny P .any ops Q fuel listed a w := by
  intro fuel
  have hmem : ∀ {e : PE}, e ∈ L → e.i ∈ ph := fun he => by rw [← hl]; exact List.mem_map_of_mem he
  induction fuel with
  | zero =>
    intro listed β a w I hf
    refine hdone 0 listed β a w (by omega) I fun e he => ?_
    cases hc : listed.getD e.i false with
    | true => rfl
    | false =>
      have : 0 < ph.countP (fun j => !listed.getD j false) := List.countP_pos_iff.2 ⟨e.i, hmem he, by simp [hc]⟩
      omega
  | succ fuel ih =>
    intro listed β a w I hf
    by_cases hall : ∀ e ∈ L, listed.getD e.i false = true
    · exact hdone _ listed β a w (by omega) I hall
    have hex : ∃ e ∈ L, listed.getD e.i false = false := by
      refine Classical.byContradiction fun hn => hall fun e he => ?_
      cases hc : listed.getD e.i false with
      | true => rfl
      | false => exact absurd ⟨e, he, hc⟩ hn
    obtain ⟨p, e, hp, hu, hbef⟩ := first_not (fun e : PE => listed.getD e.i false) L hex
    refine ⟨fun hnil => ?_, fun i hi => ?_⟩
    · exfalso
      have op := (Ph.ok p e hp).1
      have fp : ph[p]? = some e.i := by rw [← hl]; simp [hp]
      have hlt : e.i < listed.size := by rw [I.size]; exact (Array.getElem?_eq_some_iff.1 op).1
      have : e.i ∈ Region.ready .any ops listed := by
        rw [mem_ready]
        refine ⟨by rw [getD_lt hlt] at hu ⊢; exact hu, e.o, op, fun g hg hb => ?_⟩
        obtain ⟨q, hq, h⟩ := G.down p e.i e.o g fp op hg hb
        rw [← hl, List.getElem?_map] at h
        cases hL : L[q]? with
        | none => simp [hL] at h
        | some e' => simp [hL] at h; rw [← h]; exact hbef q e' hq hL
      rw [hnil] at this
      simp at this
    · obtain ⟨h0, o, ho, hpre⟩ := mem_ready.1 hi
      have h0' := getD_true_false h0
      have hlt : i < ops.size := (Array.getElem?_eq_some_iff.1 ho).1
      have hph : i ∈ ph := by
        rcases G.all i hlt with h | h
        · exact h
        · exfalso
          rcases G.tail i o h ho with ⟨g, h1, h2, h3⟩ | h1
          · exact h3 (by rw [← hl]; exact I.sub _ (hpre g h1 h2))
          · have hbit := h1 e.i (by rw [← hl]; exact List.mem_map_of_mem (List.mem_of_getElem? hp))
            rw [G.masks i o ho] at hbit
            rcases fold_bit M e.i _ _ hbit with h | ⟨g, h1, h2, h3⟩
            · simp at h
            · have hg := hpre g (by simpa using h1) h2
              have : listed.getD e.i false = true := by
                rcases h3 with h3 | h3
                · rw [h3]; exact hg
                · exact I.closed _ _ hg h3
              rw [hu] at this; cases this
      obtain ⟨e2, he2, hei⟩ := List.mem_map.1 (by rw [hl]; exact hph : i ∈ L.map (·.i))
      subst hei
      obtain ⟨q, hq⟩ := List.getElem?_of_mem he2
      have hoe : o = e2.o := by have := (Ph.ok q e2 hq).1; rw [this] at ho; exact (Option.some.inj ho).symm
      subst hoe
      refine Inv.step hΘ G hl Ph hdom hG0 hnw I hq h0' hpre fun β' a' w' I' => ih _ β' a' w' I' ?_
      have hls : e2.i < listed.size := by rw [I.size]; exact hlt
      have := count_lt (f := fun j => !listed.getD j false) (g := fun j => !(listed.setIfInBounds e2.i true).getD j false) ph (fun x _ hx => by
        simp only [Bool.not_eq_true'] at hx ⊢
        cases hc : listed.getD x false with
        | false => rfl
        | true => rw [(getD_set_iff hls).2 (.inr hc)] at hx; cases hx) ⟨e2.i, hmem he2, by simp only [h0']; rfl, by simp only [Bool.not_eq_false']; exact (getD_set_iff hls).2 (.inl rfl)⟩
      omega
end
end
end Go.Proofs.Ytgkplkmjnpofkaa.Abs
namespace Go.Proofs.Ytgkplkmjnpofkaa.Abs
open Go Go.RowKit

/-! ### 16. What stands behind the phase, and the whole region -/
def evSuf (P : Program) (Θ : Types) (ops : Array Oper) : List Nat → Array Bool → Slots → Heap → List Hint → Option ROut
  | [], listed, T, H, hs => if (Region.ready .any ops listed == []) = true then some ⟨T, H, True, hs⟩ else none
  | i :: l, listed, T, H, hs =>
    if (Region.ready .any ops listed == [i]) = true then
      match ops.toList[i]? with
      | none => none
      | some o => match evGuard ops.toList T o hs with
        | some (true, G, hs) => match evS P Θ T H o.op hs with
          | some q => match evSuf P Θ ops l (listed.setIfInBounds i true) (setSlot T o.dst q.v) q.H q.hs with
            | some r => some ⟨r.T, r.H, G ∧ q.C ∧ r.C, r.hs⟩
            | none => none
          | none => none
        | some (false, G, hs) => match evSuf P Θ ops l (listed.setIfInBounds i true) (setSlot T o.dst undef) H hs with
          | some r => some ⟨r.T, r.H, G ∧ r.C, r.hs⟩
          | none => none
        | none => none
    else none

/-- The blocks behind are ours to write. -/
def newWr (n : Nat) (H : Heap) : Bool := (H.drop n).all fun x => match x with | some B => B.wr | none => true
theorem newWr_ok {n : Nat} {H : Heap} (h : newWr n H = true) : ∀ κ B, n ≤ κ → H[κ]? = some (some B) → B.wr = true := by
  intro κ B hn hk
  unfold newWr at h
  rw [List.all_eq_true] at h
  have : (H.drop n)[κ - n]? = some (some B) := by rw [List.getElem?_drop, show n + (κ - n) = κ by omega]; exact hk
  exact h _ (List.mem_of_getElem? this)

def listed0 (n : Nat) (ph : List Nat) : Array Bool := ((List.range n).map fun i => ph.contains i).toArray


/-- No block's cells point at another. -/
def flatHeap (H : Heap) : Bool := H.all fun x => match x with | some B => flatRow B.row | none => true

/-! #### A region whose stores do not wait for all that reads: what reads what nobody writes is taken first -/
def maskH (K : List Nat) : Nat → Heap → Heap
  | _, [] => []
  | k, x :: r => (if K.contains k then x else none) :: maskH K (k + 1) r
theorem maskH_len (K : List Nat) : ∀ (k : Nat) (H : Heap), (maskH K k H).length = H.length
  | _, [] => rfl
  | k, x :: r => by simp [maskH, maskH_len K (k + 1) r]
theorem maskH_get (K : List Nat) : ∀ (k : Nat) (H : Heap) (j : Nat) (B : Blk), (maskH K k H)[j]? = some (some B) → H[j]? = some (some B)
  | _, [], j, B, h => by simp [maskH] at h
  | k, x :: r, 0, B, h => by
    simp only [maskH, List.getElem?_cons_zero, Option.some.injEq] at h
    split at h
    · subst h; rfl
    · cases h
  | k, x :: r, j + 1, B, h => by
    simp only [maskH, List.getElem?_cons_succ] at h
    simpa using maskH_get K (k + 1) r j B h

def det : Value → Bool
  | .pointer (some _) | .int .. | .bool _ | .string _ => true
  | _ => false
theorem det_eq {β : Loc} {v a b : Value} (h : det v = true) (ha : V β v a) (hb : V β v b) : a = b := by
  unfold det at h
  split at h
  · obtain ⟨A, h1, _, rfl⟩ := V_ptr.1 ha
    obtain ⟨A', h2, _, rfl⟩ := V_ptr.1 hb
    rw [h1] at h2; cases h2; rfl
  · rw [V_int.1 ha, V_int.1 hb]
  · rw [V_bool.1 ha, V_bool.1 hb]
  · rw [V_string.1 ha, V_string.1 hb]
  · cases h

/-- An operation that may be taken first. -/
def evT (Θ : Types) (T : Slots) (HK : Heap) (o : Op) : Option (Value × Prop) :=
  match o with
  | .move x => match opd T x with | some v => some (v, True) | none => none
  | .nilCheck x => match opd T x with | some v => evNil v | none => none
  | .indexAddr t x i => match opd T x, opd T i with | some vx, some vi => evIndexAddr Θ t vx vi | _, _ => none
  | .load t p => match opd T p with | some v => evLoad Θ HK t v | none => none
  | _ => none

section
variable {P : Program} {Θ : Types} {ops : Array Oper}

theorem evT_run (hΘ : Θ.Ok P) {T : Slots} {HK : Heap} {o : Oper} {v : Value} {C : Prop} {β : Loc} {a : Act} {w : World} (h : evT Θ T HK o.op = some (v, C)) (hC : C) (ht : TR β T a) (hR : RelB β HK w) : ∃ v', (execOp a.eval o).run P w = .ok (.value v') w ∧ V β v v' := by
  have fromRun : ∀ {m : Sem Value} {v : Value}, execOp a.eval o = (do pure (.value (← m))) → RunV P w β m v → ∃ v', (execOp a.eval o).run P w = .ok (.value v') w ∧ V β v v' := by
    intro m v hex hr
    obtain ⟨v', h1, h2⟩ := hr
    exact ⟨v', by rw [hex]; simp [h1], h2⟩
  unfold evT at h
  split at h
  · rename_i x ho
    split at h
    · rename_i u hu
      simp at h
      obtain ⟨rfl, _⟩ := h
      exact ⟨a.eval x, by unfold execOp; simp [ho], opd_ok ht hu⟩
    · simp at h
  · rename_i x ho
    split at h
    · rename_i u hu
      unfold evNil at h
      split at h
      · rename_i p
        obtain ⟨A, hA, hs, e⟩ := V_ptr.1 (opd_ok ht hu)
        obtain ⟨rfl, -⟩ := some2 h
        exact ⟨.pointer (some (A.addr.add p.off)), by unfold execOp; simp [ho, e], V_ptr.2 ⟨A, hA, hs, rfl⟩⟩
      · simp at h
    · simp at h
  · rename_i t x i ho
    split at h
    · rename_i vx vi hx hi
      exact fromRun (by unfold execOp; simp [ho]) (evIndexAddr_ok hΘ hR h hC (opd_ok ht hx) (opd_ok ht hi))
    · simp at h
  · rename_i t x ho
    split at h
    · rename_i u hu
      exact fromRun (by unfold execOp; simp [ho]) (evLoad_ok hΘ hR h hC (opd_ok ht hu))
    · simp at h
  · simp at h

def evHeld (P : Program) (Θ : Types) (ops : Array Oper) (K : List Nat) (HK : Heap) : List Nat → Array Bool → Slots → Heap → List Hint → Option ROut
  | [], listed, T, H, hs => if (Region.ready .any ops listed == []) = true then some ⟨T, H, True, hs⟩ else none
  | i :: l, listed, T, H, hs =>
    match ops.toList[i]? with
    | none => none
    | some o => match o.guard with
      | some _ => none
      | none => match evT Θ T HK o.op with
        | some (v, C) => if (det v && (Region.free .any ops listed i && (Region.ready .any ops listed).contains i)) = true then
            match evHeld P Θ ops K HK l (listed.setIfInBounds i true) (setSlot T o.dst v) H hs with
            | some r => some ⟨r.T, r.H, C ∧ r.C, r.hs⟩
            | none => none
          else none
        | none => if (Region.ready .any ops listed == [i]) = true then
            match evS P Θ T H o.op hs with
            | some q => match evHeld P Θ ops K HK l (listed.setIfInBounds i true) (setSlot T o.dst q.v) q.H q.hs with
              | some r => some ⟨r.T, r.H, q.C ∧ maskH K 0 q.H = HK ∧ r.C, r.hs⟩
              | none => none
            | none => none
          else none

theorem evHeld_ok (hΘ : Θ.Ok P) (hs : Region.noSelect ops = true) {K : List Nat} {HK : Heap} (hfl : flatHeap HK = true) {β0 : Loc} {Q : Exit → Act → World → Prop} (hP : ∀ c d v a w, Q (.panic c) (Act.put a d v) w → Q (.panic c) a w) :
    ∀ (l : List Nat) (listed : Array Bool) (T : Slots) (H : Heap) (hts : List Hint) (r : ROut) (β : Loc) (a : Act) (w : World) (fuel : Nat), l.length ≤ fuel →
    evHeld P Θ ops K HK l listed T H hts = some r → r.C → TR β T a → Rel β H w → β0.le β → (∀ κ A, κ < HK.length → β κ = some A → β0 κ = some A) → maskH K 0 H = HK →
    (∀ β' a' w', TR β' r.T a' → a'.defers = a.defers → Tr β H w β' r.H w' → Q .normal a' w') → wpAnyH P .any ops Q (fun w => RelB β0 HK w) fuel listed a w
  | [], listed, T, H, hts, r, β, a, w, fuel, hf, h, hC, ht, hR, hle, hfix, hmk, hQ => by
    unfold evHeld at h
    split at h
    · rename_i hr
      simp at h; subst h
      exact wpAnyH_done (by simpa using hr) (hQ β a w ht rfl (Tr.refl hR)) fuel
    · simp at h
  | i :: l, listed, T, H, hts, r, β, a, w, fuel, hf, h, hC, ht, hR, hle, hfix, hmk, hQ => by
    have hlook : ∀ {κ : Nat} {B : Blk}, HK[κ]? = some (some B) → H[κ]? = some (some B) ∧ κ < HK.length ∧ flatRow B.row = true := by
      intro κ B e
      refine ⟨by rw [← hmk] at e; exact maskH_get K 0 H κ B e, (List.getElem?_eq_some_iff.1 e).1, ?_⟩
      unfold flatHeap at hfl
      rw [List.all_eq_true] at hfl
      exact hfl _ (List.mem_of_getElem? e)
    have hS : RelB β0 HK w := ⟨fun κ B A e1 e2 => (hR.blk κ B A (hlook e1).1 (hle _ _ e2)).flat (hlook e1).2.2,
      fun κ κ' B B' A A' e1 e2 e3 e4 => hR.sep κ κ' B B' A A' (hlook e1).1 (hlook e2).1 (hle _ _ e3) (hle _ _ e4), fun κ A e => hR.spot κ A (hle _ _ e)⟩
    have hB : ∀ w', RelB β0 HK w' → RelB β HK w' := fun w' h' => ⟨fun κ B A e1 e2 => (h'.blk κ B A e1 (hfix κ A (hlook e1).2.1 e2)).same hle rfl,
      fun κ κ' B B' A A' e1 e2 e3 e4 => h'.sep κ κ' B B' A A' e1 e2 (hfix κ A (hlook e1).2.1 e3) (hfix κ' A' (hlook e2).2.1 e4), fun κ A e => hR.spot κ A e⟩
    unfold evHeld at h
    cases fuel with
    | zero => simp at hf
    | succ fuel =>
      have hf' : l.length ≤ fuel := by simpa using hf
      split at h
      · simp at h
      · rename_i o ho
        have ho' : ops[i]? = some o := by simpa using ho
        split at h
        · simp at h
        · rename_i hg
          have hw : Region.wanted o (yielded ops a.tmps) = true := by simp [Region.wanted, hg]
          split at h
          · rename_i v C hT
            split at h
            · rename_i hc
              simp only [Bool.and_eq_true] at hc
              split at h
              · rename_i r' hr'
                simp at h; subst h
                obtain ⟨c1, c2⟩ := hC
                obtain ⟨v', hrun, hv⟩ := evT_run hΘ hT c1 ht (hB w hS)
                have hy : YieldsIf P ops (fun w => RelB β0 HK w) o v' a := .inl ⟨hw, fun w' hS' => by
                  obtain ⟨v2, hrun2, hv2⟩ := evT_run hΘ hT c1 ht (hB w' hS')
                  rw [hrun2, det_eq hc.1 hv2 hv]⟩
                refine wpAnyH_take ho' hs hc.2.1 hc.2.2 (fun c a w => hP c o.dst v' a w) hy hS ?_
                exact evHeld_ok hΘ hs hfl hP l _ _ _ _ r' β _ w fuel hf' hr' c2 (ht.put o.dst hv) hR hle hfix hmk fun β2 a2 w2 t2 d2 tr2 => hQ β2 a2 w2 t2 (d2.trans (put_defers a o.dst v')) tr2
              · simp at h
            · simp at h
          · split at h
            · rename_i hr
              have hone : Region.ready .any ops listed = [i] := by simpa using hr
              split at h
              · rename_i q hq
                split at h
                · rename_i r' hr'
                  simp at h; subst h
                  obtain ⟨c1, c2, c3⟩ := hC
                  refine wpAnyH_all hone (by simp) fun j hj => ?_
                  simp at hj; subst hj
                  unfold wpOp
                  simp only [ho']
                  rw [if_pos hw]
                  refine .inl (evS_ok hΘ hq c1 ht hR _ _ fun β' v' w' hv htr => ?_)
                  have hle' := Loc.le_trans hle htr.le
                  have hlenK : HK.length = H.length := by rw [← hmk, maskH_len]
                  have hfix' : ∀ κ A, κ < HK.length → β' κ = some A → β0 κ = some A := fun κ A hκ e => hfix κ A hκ (htr.fix κ A (by omega) e)
                  have hlook' : ∀ {κ : Nat} {B : Blk}, HK[κ]? = some (some B) → q.H[κ]? = some (some B) := by
                    intro κ B e
                    rw [← c2] at e
                    exact maskH_get K 0 q.H κ B e
                  refine ⟨⟨fun κ B A e1 e2 => (htr.rel.blk κ B A (hlook' e1) (hle' _ _ e2)).flat (hlook e1).2.2,
                    fun κ κ' B B' A A' e1 e2 e3 e4 => htr.rel.sep κ κ' B B' A A' (hlook' e1) (hlook' e2) (hle' _ _ e3) (hle' _ _ e4), fun κ A e => htr.rel.spot κ A (hle' _ _ e)⟩, ?_⟩
                  exact evHeld_ok hΘ hs hfl hP l _ _ _ _ r' β' _ w' fuel hf' hr' c3 ((ht.mono htr.le).put o.dst hv) htr.rel hle' hfix' c2 fun β2 a2 w2 t2 d2 tr2 => hQ β2 a2 w2 t2 (d2.trans (put_defers a o.dst v')) (htr.trans tr2)
                · simp at h
              · simp at h
            · simp at h
end

def evRegion (P : Program) (Θ : Types) (ops : Array Oper) (drawn : Bool) (T : Slots) (H : Heap) (hs : List Hint) : Option ROut :=
  match drawn with
  | false => evSeq P Θ ops.toList ops.toList T H hs
  | true => match hs with
    | .ord ord m :: hs =>
      if phaseOk ops (ord.take m) (ord.drop m) = true then
        match evPhase P Θ ops (ord.take m) T H hs with
        | some (_, r) => if newWr H.length r.H = true then match evSuf P Θ ops (ord.drop m) (listed0 ops.toList.length (ord.take m)) r.T r.H r.hs with
          | some r' => some ⟨r'.T, r'.H, r.C ∧ r'.C, r'.hs⟩
          | none => none
          else none
        | none => none
      else none
    | .held K l :: hs => if (Region.noSelect ops && (flatHeap (maskH K 0 H) && Nat.ble l.length ops.toList.length)) = true then evHeld P Θ ops K (maskH K 0 H) l (Array.replicate ops.toList.length false) T H hs else none
    | _ => none

section
variable {P : Program} {Θ : Types} {ops : Array Oper}

theorem evSuf_ok (hΘ : Θ.Ok P) {Q : Exit → Act → World → Prop} : ∀ (l : List Nat) (listed : Array Bool) (T : Slots) (H : Heap) (hs : List Hint) (r : ROut) (β : Loc) (a : Act) (w : World) (fuel : Nat), l.length ≤ fuel →
    evSuf P Θ ops l listed T H hs = some r → r.C → TR β T a → Rel β H w → (∀ β' a' w', TR β' r.T a' → a'.defers = a.defers → Tr β H w β' r.H w' → Q .normal a' w') → wpAny P .any ops Q fuel listed a w
  | [], listed, T, H, hs, r, β, a, w, fuel, hf, h, hC, ht, hR, hQ => by
    unfold evSuf at h
    split at h
    · rename_i hr
      have hnil : Region.ready .any ops listed = [] := by simpa using hr
      simp at h; subst h
      have := hQ β a w ht rfl (Tr.refl hR)
      cases fuel with
      | zero => exact ⟨hnil, this⟩
      | succ f => exact ⟨fun _ => this, fun i hi => by rw [hnil] at hi; simp at hi⟩
    · simp at h
  | i :: l, listed, T, H, hs, r, β, a, w, fuel, hf, h, hC, ht, hR, hQ => by
    unfold evSuf at h
    split at h
    · rename_i hr
      have hone : Region.ready .any ops listed = [i] := by simpa using hr
      cases fuel with
      | zero => simp at hf
      | succ fuel =>
        have hf' : l.length ≤ fuel := by simpa using hf
        refine ⟨fun h0 => by rw [hone] at h0; simp at h0, fun j hj => ?_⟩
        rw [hone] at hj
        simp at hj; subst hj
        split at h
        · simp at h
        · rename_i o ho
          have ho' : ops[j]? = some o := by simpa using ho
          split at h
          · rename_i G hs1 hg
            split at h
            · rename_i q hq
              split at h
              · rename_i r' hr'
                simp at h; subst h
                obtain ⟨c1, c2, c3⟩ := hC
                unfold wpOp
                simp only [ho']
                rw [if_pos (evGuard_ok hg c1 ht)]
                refine .inl (evS_ok hΘ hq c2 ht hR _ _ fun β' v' w' hv htr => ?_)
                exact evSuf_ok hΘ l _ _ _ _ r' β' _ w' fuel hf' hr' c3 ((ht.mono htr.le).put o.dst hv) htr.rel fun β2 a2 w2 t2 d2 tr2 => hQ β2 a2 w2 t2 (d2.trans (put_defers a o.dst v')) (htr.trans tr2)
              · simp at h
            · simp at h
          · rename_i G hs1 hg
            split at h
            · rename_i r' hr'
              simp at h; subst h
              obtain ⟨c1, c3⟩ := hC
              unfold wpOp
              simp only [ho']
              rw [if_neg (by rw [evGuard_ok hg c1 ht]; simp)]
              exact evSuf_ok hΘ l _ _ _ _ r' β _ w fuel hf' hr' c3 (ht.put o.dst V_undef) hR fun β2 a2 w2 t2 d2 tr2 => hQ β2 a2 w2 t2 (d2.trans (put_defers a o.dst undef)) tr2
            · simp at h
          · simp at h
    · simp at h

theorem Rel.drawn {β : Loc} {H : Heap} {w : World} {n : Nat} (h : Rel β H w) : Rel β H { w with drawn := n } :=
  ⟨⟨fun κ B a h1 h2 => by
      have := h.blk κ B a h1 h2
      exact BlkAt.same (w := w) (w' := { w with drawn := n }) (Loc.le_refl _) rfl this, h.sep, h.spot⟩, h.dom, h.glob⟩

theorem Tr.drawn {β β' : Loc} {H H' : Heap} {w w' : World} {n : Nat} (h : Tr β H { w with drawn := n } β' H' w') : Tr β H w β' H' w' :=
  ⟨h.le, h.len, h.fix, h.rel, h.os, h.tape, h.output, h.size, h.frame, h.muts⟩

theorem Phase.hlen {T0 : Slots} {H0 : Heap} {L : List PE} {Tm : Slots} {Hm : Heap} : Phase P Θ ops T0 H0 L Tm Hm → H0.length ≤ Hm.length := by
  intro h
  rcases Nat.lt_or_ge Hm.length H0.length with hl | hl
  · have := h.base Hm.length hl
    rw [List.getElem?_eq_none (Nat.le_refl _), List.getElem?_eq_getElem hl] at this
    cases this
  · exact hl

theorem evRegion_ok (hΘ : Θ.Ok P) (hm : P.follows .mixedOrders = true) {id : Nat} {drawn : Bool} {T : Slots} {H : Heap} {hs : List Hint} {r : ROut} {β : Loc} {a : Act} {w : World} (h : evRegion P Θ ops drawn T H hs = some r) (hC : r.C) (ht : TR β T a) (hR : Rel β H w)
    {Q : Exit → Act → World → Prop} (hP : ∀ c d v a w, Q (.panic c) (Act.put a d v) w → Q (.panic c) a w) (hQ : ∀ β' a' w', TR β' r.T a' → a'.defers = a.defers → Tr β H w β' r.H w' → Q .normal a' w') : (Code.region id ops drawn).wp P Q a w := by
  unfold evRegion at h
  split at h
  · refine wp_region ?_
    have := evSeq_ok hΘ (ops := ops) (Q := Q) ops.toList 0 T H hs r β a w (by simp) h hC ht hR hQ
    simpa [List.range_eq_range'] using this
  · split at h
    · rename_i ord m hs'
      split at h
      · rename_i hok
        split at h
        · rename_i L r1 h1
          split at h
          rotate_left
          · simp at h
          rename_i hnw
          split at h
          · rename_i r2 h2
            simp at h; subst h
            obtain ⟨c1, c2⟩ := hC
            have G := phaseOk_spec hok
            obtain ⟨Ph, hl⟩ := evPhase_spec _ _ _ _ L r1 h1 c1
            refine wp_region_any hm ?_
            have I0 : Go.Proofs.Ytgkplkmjnpofkaa.Abs.Inv ops (masks ops.toList []) T H L r1.H β a { w with drawn := w.drawn + 1 } (Array.replicate ops.size false) β a { w with drawn := w.drawn + 1 } := by
              have hno : ∀ i, (Array.replicate ops.size false).getD i false = false := by
                intro i
                by_cases hi : i < ops.size
                · rw [getD_lt (by simpa using hi)]; simp
                · simp [Array.getD, hi]
              refine ⟨by simp, fun i hi => (by rw [hno] at hi; cases hi), fun i b hi _ => (by rw [hno] at hi; cases hi), ⟨?_, ?_, hR.spot⟩, Loc.le_refl _, Below.refl _ _, fun κ A h => .inl h, ht.len, fun p e d _ hi _ _ => (by rw [hno] at hi; cases hi), fun t v hv _ => ht.at_ t v hv, rfl⟩
              · intro κ B A e1 e2
                have hlt : κ < H.length := by
                  rcases Nat.lt_or_ge κ H.length with g | g
                  · exact g
                  · rw [hR.dom κ g] at e2; cases e2
                rw [Ph.base κ hlt] at e1
                exact (hR.drawn (n := w.drawn + 1)).blk κ B A e1 e2
              · intro κ κ' B B' A A' e1 e2 e3 e4
                have hlt : ∀ {κ A}, β κ = some A → κ < H.length := by
                  intro κ A e
                  rcases Nat.lt_or_ge κ H.length with g | g
                  · exact g
                  · rw [hR.dom κ g] at e; cases e
                rw [Ph.base κ (hlt e3)] at e1
                rw [Ph.base κ' (hlt e4)] at e2
                exact hR.sep κ κ' B B' A A' e1 e2 e3 e4
            refine phase_run hΘ G hl Ph hR.dom hR.glob (newWr_ok hnw) ?_ ops.size _ β a _ I0 (by
              have := G.size
              have h2 : (ord.take m).countP (fun j => !(Array.replicate ops.size false).getD j false) ≤ (ord.take m).length := List.countP_le_length
              omega)
            intro fuel listed β' a' w' hf I hall
            obtain ⟨ht', htr⟩ := I.done Ph hR.drawn Ph.hlen (newWr_ok hnw) hall
            have hlisted : listed = listed0 ops.toList.length (ord.take m) := by
              apply Array.ext
              · simp [listed0, I.size]
              · intro i h1 h2
                have e1 : listed[i] = listed.getD i false := (getD_lt h1).symm
                rw [e1]
                simp only [listed0, List.getElem_toArray, List.getElem_map, List.getElem_range]
                cases hc : listed.getD i false with
                | true =>
                  have := I.sub i hc
                  rw [hl] at this
                  simpa using this
                | false =>
                  symm
                  refine Bool.eq_false_iff.2 fun hc2 => ?_
                  have : i ∈ L.map (·.i) := by rw [hl]; simpa using hc2
                  obtain ⟨e, he, rfl⟩ := List.mem_map.1 this
                  rw [hall e he] at hc; cases hc
            rw [hlisted]
            exact evSuf_ok hΘ _ _ _ _ _ r2 β' a' w' fuel hf h2 c2 ht' htr.rel fun β2 a2 w2 t2 d2 tr2 => hQ β2 a2 w2 t2 (d2.trans I.defers) (htr.drawn.trans tr2)
          · simp at h
        · simp at h
      · simp at h
    · rename_i K l hs'
      split at h
      · rename_i hk
        simp only [Bool.and_eq_true] at hk
        have hlen : ops.toList.length = ops.size := by simp
        rw [hlen] at h
        have hl : l.length ≤ ops.size := by rw [← hlen]; exact Nat.le_of_ble_eq_true hk.2.2
        refine wp_region_held (S := fun w => RelB β (maskH K 0 H) w) hm ?_
        have hR' := hR.drawn (n := w.drawn + 1)
        exact evHeld_ok hΘ hk.1 hk.2.1 hP l _ T H hs' r β a _ ops.size hl h hC ht hR' (Loc.le_refl _) (fun _ _ _ e => e) rfl fun β2 a2 w2 t2 d2 tr2 => hQ β2 a2 w2 t2 d2 tr2.drawn
      · simp at h
    · simp at h
end
end Go.Proofs.Ytgkplkmjnpofkaa.Abs
namespace Go.Proofs.Ytgkplkmjnpofkaa.Abs
open Go Go.RowKit

/-! ### 17. The machine -/
def Runs (P : Program) (todo : List Item) (a : Act) (w : World) (Q : Act → World → Prop) : Prop :=
  ∀ (b : Frame) (cs : List Frame), ∃ a' w' todo', Q a' w' ∧ Steps P (lone (b.at a todo) cs w) (lone { b.at a' todo' with mode := .returning } cs w')

section
variable {P : Program} {Θ : Types} {Q : Act → World → Prop} {a : Act} {w : World} {k : List Item}

theorem Runs.step {todo todo2 : List Item} (h : ∀ (b : Frame) (cs : List Frame), step P (lone (b.at a todo) cs w) = .next (lone (b.at a todo2) cs w)) (h2 : Runs P todo2 a w Q) : Runs P todo a w Q :=
  fun b cs => let ⟨a', w', t', q, r⟩ := h2 b cs; ⟨a', w', t', q, .head (h b cs) r⟩

theorem Runs.code {c : Code} (h : c.wp P (fun e a' w' => e = .normal ∧ Runs P k a' w' Q) a w) : Runs P (.code c :: k) a w Q := fun b cs => by
  obtain ⟨e, a', w', ⟨rfl, h2⟩, harr⟩ := h b k cs
  obtain ⟨a2, w2, t2, q, r⟩ := h2 b cs
  exact ⟨a2, w2, t2, q, Steps.trans harr r⟩

theorem Runs.nil (h : Q a w) : Runs P [] a w Q := fun b cs => ⟨a, w, [], h, .one step_end⟩
theorem Runs.ret (h : Q a w) : Runs P (.code .ret :: k) a w Q := fun b cs => ⟨a, w, _, h, .one step_ret⟩

structure MOut where
  todo : List Item
  T : Slots
  H : Heap
  C : Prop
  hs : List Hint

def mstep (P : Program) (Θ : Types) (todo : List Item) (T : Slots) (H : Heap) (hs : List Hint) : Option MOut :=
  match todo with
  | .code .skip :: k => some ⟨k, T, H, True, hs⟩
  | .code (.label _) :: k => some ⟨k, T, H, True, hs⟩
  | .code (.seq x y) :: k => some ⟨.code x :: .code y :: k, T, H, True, hs⟩
  | .code (.cond c x y) :: k => match hs with
    | .b t :: hs' => match opd T c with
      | some (.bool cb) => some ⟨.code (if t then x else y) :: k, T, H, cb = t, hs'⟩
      | _ => none
    | _ => none
  | .code (.block id c) :: k => some ⟨.code c :: .inBlock id :: k, T, H, True, hs⟩
  | .code (.loop c) :: k => some ⟨.code c :: .inLoop c :: k, T, H, True, hs⟩
  | .code (.scope c) :: k => some ⟨.code c :: .inScope c :: k, T, H, True, hs⟩
  | .code (.exit id) :: k => (exitTo id k).map fun k' => ⟨k', T, H, True, hs⟩
  | .code (.goto l) :: k => (gotoIn l k).map fun k' => ⟨k', T, H, True, hs⟩
  | .code (.region id ops drawn) :: k => match evRegion P Θ ops drawn T H hs with
    | some r => some ⟨k, r.T, r.H, r.C, r.hs⟩
    | none => none
  | .inBlock _ :: k => some ⟨k, T, H, True, hs⟩
  | .inScope _ :: k => some ⟨k, T, H, True, hs⟩
  | .inLoop c :: k => some ⟨.code c :: .inLoop c :: k, T, H, True, hs⟩
  | _ => none

theorem mstep_ok (hΘ : Θ.Ok P) (hm : P.follows .mixedOrders = true) {todo : List Item} {T : Slots} {H : Heap} {hs : List Hint} {m : MOut} {β : Loc} (h : mstep P Θ todo T H hs = some m) (hC : m.C) (ht : TR β T a) (hR : Rel β H w)
    (hQ : ∀ β' a' w', TR β' m.T a' → a'.defers = a.defers → Tr β H w β' m.H w' → Runs P m.todo a' w' Q) : Runs P todo a w Q := by
  have still := hQ β a w
  unfold mstep at h
  split at h
  · simp at h; subst h; exact .step (fun _ _ => step_skip) (still ht rfl (Tr.refl hR))
  · simp at h; subst h; exact .step (fun _ _ => step_label) (still ht rfl (Tr.refl hR))
  · simp at h; subst h; exact .step (fun _ _ => step_seq) (still ht rfl (Tr.refl hR))
  · split at h
    · split at h
      · rename_i t hs' _ cb hc
        simp at h; subst h
        have e := V_bool.1 (opd_ok ht hc)
        have hC' : cb = t := hC
        subst hC'
        exact .step (fun _ _ => step_cond e) (still ht rfl (Tr.refl hR))
      · simp at h
    · simp at h
  · simp at h; subst h; exact .step (fun _ _ => step_block) (still ht rfl (Tr.refl hR))
  · simp at h; subst h; exact .step (fun _ _ => step_loop) (still ht rfl (Tr.refl hR))
  · simp at h; subst h; exact .step (fun _ _ => step_scope) (still ht rfl (Tr.refl hR))
  · rename_i id k
    cases he : exitTo id k with
    | none => simp [he] at h
    | some k' => simp [he] at h; subst h; exact .step (fun _ _ => step_exit he) (still ht rfl (Tr.refl hR))
  · rename_i l k
    cases he : gotoIn l k with
    | none => simp [he] at h
    | some k' => simp [he] at h; subst h; exact .step (fun _ _ => step_goto he) (still ht rfl (Tr.refl hR))
  · split at h
    · rename_i r hr
      simp at h; subst h
      exact .code (evRegion_ok hΘ hm hr hC ht hR (fun c d v a w h => by cases h.1) fun β' a' w' t d tr => ⟨rfl, hQ β' a' w' t d tr⟩)
    · simp at h
  · simp at h; subst h; exact .step (fun _ _ => step_inBlock) (still ht rfl (Tr.refl hR))
  · simp at h; subst h; exact .step (fun _ _ => step_inScope) (still ht rfl (Tr.refl hR))
  · simp at h; subst h; exact .step (fun _ _ => step_inLoop) (still ht rfl (Tr.refl hR))
  · simp at h

/-- So many steps. -/
def mrun (P : Program) (Θ : Types) : Nat → List Item → Slots → Heap → List Hint → Option MOut
  | 0, todo, T, H, hs => some ⟨todo, T, H, True, hs⟩
  | n + 1, todo, T, H, hs => match mstep P Θ todo T H hs with
    | some m => match mrun P Θ n m.todo m.T m.H m.hs with
      | some m' => some ⟨m'.todo, m'.T, m'.H, m.C ∧ m'.C, m'.hs⟩
      | none => none
    | none => none

theorem mrun_ok (hΘ : Θ.Ok P) (hm : P.follows .mixedOrders = true) : ∀ (n : Nat) {todo : List Item} {T : Slots} {H : Heap} {hs : List Hint} {m : MOut} {β : Loc} {a : Act} {w : World}, mrun P Θ n todo T H hs = some m → m.C → TR β T a → Rel β H w →
    (∀ β' a' w', TR β' m.T a' → a'.defers = a.defers → Tr β H w β' m.H w' → Runs P m.todo a' w' Q) → Runs P todo a w Q
  | 0, todo, T, H, hs, m, β, a, w, h, hC, ht, hR, hQ => by
    simp [mrun] at h; subst h
    exact hQ β a w ht rfl (Tr.refl hR)
  | n + 1, todo, T, H, hs, m, β, a, w, h, hC, ht, hR, hQ => by
    unfold mrun at h
    split at h
    · rename_i m1 h1
      split at h
      · rename_i m2 h2
        simp at h; subst h
        obtain ⟨c1, c2⟩ := hC
        exact mstep_ok hΘ hm h1 c1 ht hR fun β1 a1 w1 t1 d1 tr1 => mrun_ok hΘ hm n h2 c2 t1 tr1.rel fun β2 a2 w2 t2 d2 tr2 => hQ β2 a2 w2 t2 (d2.trans d1) (tr1.trans tr2)
      · simp at h
    · simp at h

/-! ### 18. What is still to come -/
/-- From here the function ends with this value and these blocks. -/
def Ends (P : Program) (fn : Func) (H0 : Heap) (todo : List Item) (T : Slots) (H : Heap) (v : Value) (Hf : Heap) : Prop :=
  ∀ β0 w0 β a w, (∀ κ, H0.length ≤ κ → β0 κ = none) → Tr β0 H0 w0 β H w → TR β T a → a.defers = [] → Runs P todo a w (fun a' w' => a'.defers = [] ∧ ∃ v', (results fn a'.tmps).run P w' = .ok v' w' ∧ ∃ β', V β' v v' ∧ Tr β0 H0 w0 β' Hf w')

variable {fn : Func} {H0 : Heap}

theorem Ends.run (hΘ : Θ.Ok P) (hm : P.follows .mixedOrders = true) {n : Nat} {todo todo' : List Item} {T T' : Slots} {H H' : Heap} {hs : List Hint} {C : Prop} {v : Value} {Hf : Heap}
    (h : mrun P Θ n todo T H hs = some ⟨todo', T', H', C, []⟩) (hC : C) (hE : Ends P fn H0 todo' T' H' v Hf) : Ends P fn H0 todo T H v Hf := by
  intro β0 w0 β a w h0 htr ht hd
  exact mrun_ok hΘ hm n h hC ht htr.rel fun β' a' w' t' d' tr' => hE β0 w0 β' a' w' h0 (htr.trans tr') t' (d'.trans hd)

/-- Fewer slots told, the blocks under new keys, some of them told no more. -/
def slotsOk (ι : List Nat) (bad : Nat) : Slots → Slots → Prop
  | [], [] => True
  | none :: r, _ :: r' => slotsOk ι bad r r'
  | some v :: r, x :: r' => x = some (ren ι bad v) ∧ slotsOk ι bad r r'
  | _, _ => False

theorem slotsOk_get {ι : List Nat} {bad : Nat} : ∀ {T T' : Slots}, slotsOk ι bad T T' → T.length = T'.length ∧ ∀ (i : Nat) v, T[i]? = some (some v) → T'[i]? = some (some (ren ι bad v))
  | [], [], _ => ⟨rfl, by simp⟩
  | none :: r, x :: r', h => by
    have := slotsOk_get (T := r) (T' := r') (by simpa [slotsOk] using h)
    refine ⟨by simp [this.1], fun i v hi => ?_⟩
    cases i with
    | zero => simp at hi
    | succ i => simpa using this.2 i v (by simpa using hi)
  | some u :: r, x :: r', h => by
    simp only [slotsOk] at h
    have := slotsOk_get h.2
    refine ⟨by simp [this.1], fun i v hi => ?_⟩
    cases i with
    | zero => simp at hi; subst hi; simp [h.1]
    | succ i => simpa using this.2 i v (by simpa using hi)
  | none :: _, [], h => by simp [slotsOk] at h
  | some _ :: _, [], h => by simp [slotsOk] at h
  | [], _ :: _, h => by simp [slotsOk] at h

/-- No block's cells point at another, among the kept. -/
def flatH (H : Heap) : Bool := H.all fun x => match x with | some B => flatRow B.row | none => true

theorem Ends.rekey (ι : List Nat) {todo : List Item} {T T' : Slots} {H H' : Heap} {v : Value} {Hf : Heap} (hι : nodupB ι = true ∧ ι.take H0.length = List.range H0.length ∧ H0.length ≤ ι.length) (hH : H' = view H ι) (hfl : flatH H' = true) (hT : slotsOk ι H.length T' T)
    (hE : Ends P fn H0 todo T' H' v Hf) : Ends P fn H0 todo T H v Hf := by
  obtain ⟨hnd, hid, hlen⟩ := hι
  subst hH
  intro β0 w0 β a w h0 htr ht hd
  let β1 : Loc := fun κ => match ι[κ]? with | some k => β k | none => none
  have hβs : ∀ {i k : Nat}, ι[i]? = some k → β1 i = β k := fun h => by simp only [β1, h]
  have hβn : ∀ {i : Nat}, ι.length ≤ i → β1 i = none := fun h => by simp only [β1, List.getElem?_eq_none h]
  have hR := htr.rel
  have hback : Back ι H.length β1 β := by
    intro κ A hA
    rcases Nat.lt_or_ge κ ι.length with h | h
    · have := List.getElem?_eq_getElem h
      rw [hβs this]
      rwa [getD_some this] at hA
    · rw [getD_none h, hR.dom _ (Nat.le_refl _)] at hA; cases hA
  have hview : ∀ {i : Nat} {B : Blk}, (view H ι)[i]? = some (some B) → ∃ k, ι[i]? = some k ∧ H[k]? = some (some B) ∧ flatRow B.row = true := by
    intro i B h
    have hf : flatRow B.row = true := by
      unfold flatH at hfl
      rw [List.all_eq_true] at hfl
      exact hfl _ (List.mem_of_getElem? h)
    simp only [view, List.getElem?_map] at h
    cases hk : ι[i]? with
    | none => simp [hk] at h
    | some k => simp [hk] at h; exact ⟨k, rfl, key?_ok (by unfold key?; rw [List.getD_eq_getElem?_getD]; exact h), hf⟩
  have hlow : ∀ {i : Nat}, i < H0.length → ι[i]? = some i := by
    intro i hi
    have : (ι.take H0.length)[i]? = some i := by rw [hid]; simp [hi]
    rwa [List.getElem?_take, if_pos hi] at this
  have hle0 : ∀ κ A, β0 κ = some A → κ < H0.length → β κ = some A := fun κ A h _ => htr.le κ A h
  have htr' : Tr β0 H0 w0 β1 (view H ι) w := by
    refine ⟨?_, by simpa [view] using hlen, ?_, ⟨⟨?_, ?_, ?_⟩, ?_, ?_⟩, htr.os, htr.tape, htr.output, htr.size, htr.frame, ?_⟩
    · intro κ A h
      rcases Nat.lt_or_ge κ H0.length with hl | hl
      · rw [hβs (hlow hl)]; exact htr.le κ A h
      · rw [h0 κ hl] at h; cases h
    · intro κ A hl h
      rw [hβs (hlow hl)] at h
      exact htr.fix κ A hl h
    · intro i B A h1 h2
      obtain ⟨k, h3, h4, hf⟩ := hview h1
      rw [hβs h3] at h2
      exact (hR.blk k B A h4 h2).flat hf
    · intro i j B B' A A' h1 h2 h3 h4 hne hw hn
      obtain ⟨k, e1, e2, _⟩ := hview h1
      obtain ⟨k', e3, e4, _⟩ := hview h2
      rw [hβs e1] at h3
      rw [hβs e3] at h4
      exact hR.sep k k' B B' A A' e2 e4 h3 h4 (fun e => hne (nodupB_ok hnd i j k e1 (e ▸ e3))) hw hn
    · intro i A h
      rcases Nat.lt_or_ge i ι.length with hl | hl
      · rw [hβs (List.getElem?_eq_getElem hl)] at h; exact hR.spot _ _ h
      · rw [hβn hl] at h; cases h
    · intro κ h
      exact hβn (by simpa [view] using h)
    · intro i B g h1 h2 h3
      obtain ⟨k, e1, e2, _⟩ := hview h1
      rw [hβs e1]; exact hR.glob k B g e2 h2 h3
    · intro i B A h1 h2 h3
      obtain ⟨k, e1, e2, _⟩ := hview h1
      rw [hβs e1] at h3
      exact htr.muts k B A e2 h2 h3
  obtain ⟨hTl, hTg⟩ := slotsOk_get hT
  refine hE β0 w0 β1 a w h0 htr' ⟨by rw [hTl]; exact ht.len, fun i u hu => ?_⟩ hd
  obtain ⟨v', h1, h2⟩ := ht.at_ i _ (hTg i u hu)
  exact ⟨v', h1, ren_down hback h2⟩

/-! ### 19. The end -/
def evRes1 (Θ : Types) (H : Heap) (T : Slots) : ResultVar → Option (Value × Prop)
  | .tmp t => match T.getD t none with | some v => some (v, True) | none => none
  | .cell a t => match T.getD a none with | some v => evLoad Θ H t v | none => none
def evResL (Θ : Types) (H : Heap) (T : Slots) : List ResultVar → Option (List Value × Prop)
  | [] => some ([], True)
  | r :: l => match evRes1 Θ H T r with
    | some (v, C) => match evResL Θ H T l with
      | some (vs, D) => some (v :: vs, C ∧ D)
      | none => none
    | none => none
def noTuple : Value → Bool
  | .tuple _ => false
  | _ => true
def evRes (Θ : Types) (H : Heap) (T : Slots) (l : List ResultVar) : Option (Value × Prop) :=
  match evResL Θ H T l with
  | some ([v], C) => some (v, C)
  | some (vs, C) => if vs.all noTuple then some (.tuple vs.toArray, C) else none
  | none => none

theorem V2_of_V {β : Loc} {v v' : Value} (h : V β v v') (hn : noTuple v = true) : V2 β v v' := by
  unfold V at h
  split at h
  · simp [noTuple] at hn
  · exact h

def resOne (tmps : Array Value) : ResultVar → Sem Value
  | .tmp t => pure (tmps.getD t undef)
  | .cell a t => do loadVar t (← asAddr (tmps.getD a undef))

theorem results_eq (fn : Func) (tmps : Array Value) : results fn tmps = (do let vs ← fn.results.mapM (resOne tmps); pure (if h : vs.size = 1 then vs[0] else .tuple vs)) := by
  unfold results
  congr 1

theorem evRes1_ok (hΘ : Θ.Ok P) {β : Loc} {H : Heap} {T : Slots} (ht : TR β T a) (hR : RelB β H w) {r : ResultVar} {v : Value} {C : Prop} (h : evRes1 Θ H T r = some (v, C)) (hC : C) : ∃ v', (resOne a.tmps r).run P w = .ok v' w ∧ V β v v' := by
  have slot : ∀ {t : Nat} {v : Value}, T.getD t none = some v → ∃ v', a.tmps.getD t undef = v' ∧ V β v v' := by
    intro t v e
    have : T[t]? = some (some v) := by
      rw [List.getD_eq_getElem?_getD] at e
      cases ht : T[t]? with
      | none => simp [ht] at e
      | some u => simp [ht] at e; rw [e]
    obtain ⟨v', h1, h2⟩ := ht.at_ t v this
    exact ⟨v', by simp [h1], h2⟩
  unfold evRes1 at h
  split at h
  · rename_i t
    split at h
    · rename_i u hu
      simp at h
      obtain ⟨rfl, _⟩ := h
      obtain ⟨v', h1, h2⟩ := slot hu
      exact ⟨v', by simp [resOne, h1], h2⟩
    · simp at h
  · rename_i p t
    split at h
    · rename_i u hu
      obtain ⟨v', h1, h2⟩ := slot hu
      have hl := evLoad_ok hΘ hR h hC h2
      unfold RunV at hl
      obtain ⟨x, g1, g2⟩ := hl
      refine ⟨x, ?_, g2⟩
      simp only [resOne, h1]
      rw [← g1]
      unfold Instr.loadAt
      have hp : ∃ A, v' = .pointer (some A) := by
        unfold evLoad at h
        split at h
        · obtain ⟨A, _, _, e⟩ := V_ptr.1 h2
          exact ⟨_, e⟩
        · simp at h
      obtain ⟨A, rfl⟩ := hp
      simp [asAddr, Instr.sureAddr]
    · simp at h

theorem evResL_ok (hΘ : Θ.Ok P) {β : Loc} {H : Heap} {T : Slots} (ht : TR β T a) (hR : RelB β H w) : ∀ {l : List ResultVar} {vs : List Value} {C : Prop}, evResL Θ H T l = some (vs, C) → C → ∃ vs', (l.mapM (resOne a.tmps)).run P w = .ok vs' w ∧ F2 (V β) vs vs'
  | [], vs, C, h, hC => by
    simp [evResL] at h
    obtain ⟨rfl, _⟩ := h
    exact ⟨[], by simp, .nil⟩
  | r :: l, vs, C, h, hC => by
    unfold evResL at h
    split at h
    · rename_i v C1 h1
      split at h
      · rename_i vs2 C2 h2
        simp only [Option.some.injEq, Prod.mk.injEq] at h
        obtain ⟨rfl, rfl⟩ := h
        obtain ⟨v', g1, g2⟩ := evRes1_ok hΘ ht hR h1 hC.1
        obtain ⟨vs', g3, g4⟩ := evResL_ok hΘ ht hR h2 hC.2
        exact ⟨v' :: vs', by simp [List.mapM_cons, g1, g3], .cons g2 g4⟩
      · simp at h
    · simp at h

theorem evRes_ok (hΘ : Θ.Ok P) {β : Loc} {H : Heap} {T : Slots} (ht : TR β T a) (hR : RelB β H w) {v : Value} {C : Prop} (h : evRes Θ H T fn.results.toList = some (v, C)) (hC : C) : ∃ v', (results fn a.tmps).run P w = .ok v' w ∧ V β v v' := by
  have key : ∀ {vs : List Value} {D : Prop}, evResL Θ H T fn.results.toList = some (vs, D) → D → ∃ vs', (fn.results.mapM (resOne a.tmps)).run P w = .ok vs'.toArray w ∧ F2 (V β) vs vs' := by
    intro vs D h1 h2
    obtain ⟨vs', g1, g2⟩ := evResL_ok hΘ ht hR h1 h2
    refine ⟨vs', ?_, g2⟩
    rw [Array.mapM_eq_mapM_toList]
    simp [g1]
  unfold evRes at h
  split at h
  · rename_i u D h1
    simp only [Option.some.injEq, Prod.mk.injEq] at h
    obtain ⟨rfl, rfl⟩ := h
    obtain ⟨vs', g1, g2⟩ := key h1 hC
    cases g2 with
    | cons h2 h3 =>
      cases h3
      refine ⟨_, ?_, h2⟩
      rw [results_eq]
      simp [g1]
  · rename_i vs D hne h1
    split at h
    · rename_i hall
      simp only [Option.some.injEq, Prod.mk.injEq] at h
      obtain ⟨rfl, rfl⟩ := h
      obtain ⟨vs', g1, g2⟩ := key h1 hC
      have hl : vs.length = vs'.length := (forall2_get g2).1
      have h1' : vs'.length ≠ 1 := by
        intro e
        rw [e] at hl
        match vs, hl with
        | [x], _ => exact hne x rfl
      refine ⟨.tuple vs'.toArray, ?_, V_tuple.2 ⟨_, rfl, ?_⟩⟩
      · rw [results_eq]
        simp [g1, h1']
      · rw [List.all_eq_true] at hall
        have : ∀ {l l' : List Value}, F2 (V β) l l' → (∀ x ∈ l, noTuple x = true) → F2 (V2 β) l l' := by
          intro l l' h
          induction h with
          | nil => intro _; exact .nil
          | cons a b ih => intro hn; exact .cons (V2_of_V a (hn _ (by simp))) (ih fun x hx => hn x (by simp [hx]))
        exact this g2 hall
    · simp at h
  · simp at h

theorem Ends.nil (hΘ : Θ.Ok P) {T : Slots} {H : Heap} {v : Value} {C : Prop} (h : evRes Θ H T fn.results.toList = some (v, C)) (hC : C) : Ends P fn H0 [] T H v H := by
  intro β0 w0 β a w h0 htr ht hd
  obtain ⟨v', h1, h2⟩ := evRes_ok hΘ ht htr.rel.toRelB h hC
  exact .nil ⟨hd, v', h1, β, h2, htr⟩
theorem Ends.ret (hΘ : Θ.Ok P) {T : Slots} {H : Heap} {v : Value} {C : Prop} (h : evRes Θ H T fn.results.toList = some (v, C)) (hC : C) : Ends P fn H0 (.code .ret :: k) T H v H := by
  intro β0 w0 β a w h0 htr ht hd
  obtain ⟨v', h1, h2⟩ := evRes_ok hΘ ht htr.rel.toRelB h hC
  exact .ret ⟨hd, v', h1, β, h2, htr⟩

/-- A function, from its body. -/
theorem Ends.fnOk {f : FuncId} {c : Code} {args : List Value} {T : Slots} {v : Value} {Hf : Heap} (hf : P.funcs[f]? = some fn) (hb : fn.body = some c) (hn : (fn.name == "runtime.NumGoroutine") = false)
    (hT : T = args.map some ++ List.replicate (fn.ntmps - args.length) none) (hE : Ends P fn H0 [.code c] T H0 v Hf) : FnOk P f args H0 v Hf := by
  refine ⟨⟨fn, hf, hn, by simp [hb]⟩, fun β vs w hvs hR cs => ?_⟩
  have hlen := (forall2_get hvs).1
  let b : Frame := { (default : Frame) with fn := f, kind := .normal }
  let a0 : Act := { tmps := vs.toArray ++ Array.replicate (fn.ntmps - vs.toArray.size) undef, defers := [] }
  have henter : Frame.enter P f vs.toArray .normal = b.at a0 [.code c] := by
    simp [Frame.enter, Frame.at, hf, hb, b, a0]
  have htr0 : TR β T a0 := by
    subst hT
    refine ⟨by simp [a0, hlen], fun i v hv => ?_⟩
    rcases Nat.lt_or_ge i args.length with h | h
    · rw [List.getElem?_append_left (by simpa using h)] at hv
      have : args[i]? = some v := by
        rw [List.getElem?_map] at hv
        cases hx : args[i]? with
        | none => simp [hx] at hv
        | some u => simp [hx] at hv; rw [hv]
      obtain ⟨v', h1, h2⟩ := (forall2_get hvs).2 _ _ this
      refine ⟨v', ?_, h2⟩
      have hlt : i < vs.length := by omega
      simp only [a0]
      rw [Array.getElem?_append_left (by simpa using hlt)]
      simpa using h1
    · rw [List.getElem?_append_right (by simpa using h), List.getElem?_replicate] at hv
      split at hv <;> simp at hv
  obtain ⟨a', w', todo', ⟨hd, v', h1, β', h2, h3⟩, hs⟩ := hE β w β a0 w hR.dom (Tr.refl hR) htr0 rfl b cs
  rw [← henter] at hs
  exact ⟨.returned v', w', _, ⟨β', v', rfl, h2, h3⟩, hs, rfl, rfl, hd, rfl, fn, hf, h1⟩
end
end Go.Proofs.Ytgkplkmjnpofkaa.Abs
namespace Go.Proofs.Ytgkplkmjnpofkaa.Abs
open Go Go.RowKit

/-! ### 20. A nil slice told as an empty one of a block that is not there -/
def ghostOk (κ : Nat) : Slots → Slots → Prop
  | [], [] => True
  | none :: r, _ :: r' => ghostOk κ r r'
  | some v :: r, x :: r' => (x = some v ∨ (v = .slice (some ⟨κ, 0, none⟩) 0 0 ∧ x = some (.slice none 0 0))) ∧ ghostOk κ r r'
  | _, _ => False

theorem ghostOk_get {κ : Nat} : ∀ {T T' : Slots}, ghostOk κ T T' → T.length = T'.length ∧ ∀ (i : Nat) v, T[i]? = some (some v) → T'[i]? = some (some v) ∨ (v = .slice (some ⟨κ, 0, none⟩) 0 0 ∧ T'[i]? = some (some (.slice none 0 0)))
  | [], [], _ => ⟨rfl, by simp⟩
  | none :: r, x :: r', h => by
    have := ghostOk_get (T := r) (T' := r') (by simpa [ghostOk] using h)
    refine ⟨by simp [this.1], fun i v hi => ?_⟩
    cases i with
    | zero => simp at hi
    | succ i => simpa using this.2 i v (by simpa using hi)
  | some u :: r, x :: r', h => by
    simp only [ghostOk] at h
    have := ghostOk_get h.2
    refine ⟨by simp [this.1], fun i v hi => ?_⟩
    cases i with
    | zero => simp at hi; subst hi; simpa using h.1
    | succ i => simpa using this.2 i v (by simpa using hi)
  | none :: _, [], h => by simp [ghostOk] at h
  | some _ :: _, [], h => by simp [ghostOk] at h
  | [], _ :: _, h => by simp [ghostOk] at h

section
variable {P : Program} {fn : Func} {H0 : Heap}

theorem Ends.ghost (B : Blk) {todo : List Item} {T T' : Slots} {H : Heap} {v : Value} {Hf : Heap} (hT : ghostOk H.length T' T)
    (hE : Ends P fn H0 todo T' (H ++ [some B]) v Hf) (hw : B.wr = true := by rfl) : Ends P fn H0 todo T H v Hf := by
  intro β0 w0 β a w h0 htr ht hd
  have hR := htr.rel
  have hold : ∀ {κ : Nat} {B' : Blk} {A : Place}, (H ++ [some B])[κ]? = some (some B') → β κ = some A → H[κ]? = some (some B') := by
    intro κ B' A h1 h2
    rcases Nat.lt_or_ge κ H.length with h | h
    · rwa [List.getElem?_append_left h] at h1
    · rw [hR.dom κ h] at h2; cases h2
  have htr' : Tr β0 H0 w0 β (H ++ [some B]) w := by
    refine ⟨htr.le, by have := htr.len; simp; omega, htr.fix, ⟨⟨?_, ?_, hR.spot⟩, fun κ h => hR.dom κ (by simp at h; omega), fun κ B' g e1 e2 e3 => by
      rw [List.getElem?_append] at e1
      split at e1
      · exact hR.glob κ B' g e1 e2 e3
      · have : B' = B := by
          rename_i hge
          rcases Nat.lt_trichotomy κ H.length with h1 | h1 | h1
          · omega
          · subst h1; simp at e1; exact e1.symm
          · rw [List.getElem?_eq_none (by simp; omega)] at e1; cases e1
        rw [this, hw] at e2; cases e2⟩, htr.os, htr.tape, htr.output, htr.size, htr.frame, ?_⟩
    · intro κ B' A h1 h2
      exact hR.blk κ B' A (hold h1 h2) h2
    · intro κ κ' B1 B2 A A' h1 h2 h3 h4
      exact hR.sep κ κ' B1 B2 A A' (hold h1 h3) (hold h2 h4) h3 h4
    · intro κ B' A h1 h2 h3
      exact htr.muts κ B' A (hold h1 h3) h2 h3
  obtain ⟨hTl, hTg⟩ := ghostOk_get hT
  refine hE β0 w0 β a w h0 htr' ⟨by rw [hTl]; exact ht.len, fun i u hu => ?_⟩ hd
  rcases hTg i u hu with h | ⟨rfl, h⟩
  · exact ht.at_ i u h
  · obtain ⟨v', h1, h2⟩ := ht.at_ i _ h
    have : v' = .slice none 0 0 := by
      have := (V_flat (β := β) (v := .slice none 0 0) (v' := v') (by show Flat1 _ = true; rfl)).1 h2
      exact this
    exact ⟨v', h1, V_slice.2 ⟨rfl, .inl ⟨rfl, this⟩⟩⟩

/-- The same, told otherwise. -/
theorem Ends.cast {todo : List Item} {T : Slots} {H : Heap} {v v2 : Value} {Hf Hf2 : Heap} (hv : v2 = v) (hH : Hf2 = Hf) (hE : Ends P fn H0 todo T H v Hf) : Ends P fn H0 todo T H v2 Hf2 := by
  subst hv; subst hH; exact hE

end
/-- A part of a function's code. -/
def nav : List Nat → Code → Code
  | [], c => c
  | 0 :: p, .seq a _ => nav p a
  | (_ + 1) :: p, .seq _ b => nav p b
  | 0 :: p, .cond _ a _ => nav p a
  | (_ + 1) :: p, .cond _ _ b => nav p b
  | _ :: p, .block _ b => nav p b
  | _ :: p, .loop b => nav p b
  | _ :: p, .scope b => nav p b
  | _, c => c

end Go.Proofs.Ytgkplkmjnpofkaa.Abs
namespace Go.Proofs.Ytgkplkmjnpofkaa.Abs
open Go Go.RowKit

/-! ### 21. A call of which nothing that was there is written -/
theorem FnOk.below {P : Program} {f : FuncId} {args vs : List Value} {H H' : Heap} {v : Value} {W : World} {β : Loc} (h : FnOk P f args H v H') (hw : ∀ (κ : Nat) B, H[κ]? = some (some B) → B.wr = false) (hv : Flat v) (hR : Rel β H W) (ha : F2 (V β) args vs) :
    Calls P f vs.toArray W (fun e W' => e = .returned v ∧ Below W.heap.size W W') := by
  refine (h.goes β vs W ha hR).mono ?_
  rintro e W' ⟨β', v', rfl, h1, h2⟩
  refine ⟨by rw [(V_flat hv).1 h1], h2.os, h2.tape, h2.output, h2.size, fun k hk => h2.frame k hk fun κ B A e1 e2 _ => ?_⟩
  rw [hw κ B e1] at e2; cases e2

/-- No block at all. -/
theorem FnOk.plain {P : Program} {f : FuncId} {vs : List Value} {H' : Heap} {v : Value} {W : World} (h : FnOk P f vs [] v H') (hv : Flat v) (ha : FlatL vs) :
    Calls P f vs.toArray W (fun e W' => e = .returned v ∧ Below W.heap.size W W') :=
  h.below (β := fun _ => none) (by simp) hv (Rel.nil W) ha.mk

/-! ### 22. Bits -/
theorem bits_xor (k : IntKind) (j : Nat) (hj : j ≤ k.bits) (hk : ∀ n : Int, 0 ≤ n → n < 2 ^ j → k.wrap n = n) (a b : Nat) (ha : a < 2 ^ j) (hb : b < 2 ^ j) :
    bits .xor k a b = ((a ^^^ b : Nat) : Int) := by
  have hp : 2 ^ j ≤ 2 ^ k.bits := Nat.pow_le_pow_right (by decide) hj
  have ha' : a % 2 ^ k.bits = a := Nat.mod_eq_of_lt (Nat.lt_of_lt_of_le ha hp)
  have hb' : b % 2 ^ k.bits = b := Nat.mod_eq_of_lt (Nat.lt_of_lt_of_le hb hp)
  have cast : ∀ n : Nat, n < 2 ^ j → ((n : Nat) : Int) < 2 ^ j := fun n h => by exact_mod_cast h
  simp only [bits, BitVec.ofInt_natCast, BitVec.toNat_xor, BitVec.toNat_ofNat, ha', hb']
  exact hk _ (Int.natCast_nonneg _) (cast _ (Nat.xor_lt_two_pow ha hb))

theorem wraps_u32 (n : Int) (h₀ : 0 ≤ n) (h₁ : n < 2 ^ 32) : IntKind.u32.wrap n = n := by rw [IntKind.wrap_u32]; omega
theorem wraps_i64 (n : Int) (h₀ : 0 ≤ n) (h₁ : n < 2 ^ 63) : IntKind.i64.wrap n = n := by rw [IntKind.wrap_i64]; omega

theorem xor_u8 {a b : Nat} (ha : a < 256) (hb : b < 256) : bits .xor .u8 a b = ((a ^^^ b : Nat) : Int) := bits_xor .u8 8 (by decide) wraps_u8 a b ha hb
theorem and_u8 {a b : Nat} (ha : a < 256) (hb : b < 256) : bits .and .u8 a b = ((a &&& b : Nat) : Int) := (bits_nat .u8 8 (by decide) wraps_u8 a b ha hb).1
theorem or_u8 {a b : Nat} (ha : a < 256) (hb : b < 256) : bits .or .u8 a b = ((a ||| b : Nat) : Int) := (bits_nat .u8 8 (by decide) wraps_u8 a b ha hb).2
theorem xor_u32 {a b : Nat} (ha : a < 4294967296) (hb : b < 4294967296) : bits .xor .u32 a b = ((a ^^^ b : Nat) : Int) := bits_xor .u32 32 (by decide) wraps_u32 a b ha hb
theorem and_u32 {a b : Nat} (ha : a < 4294967296) (hb : b < 4294967296) : bits .and .u32 a b = ((a &&& b : Nat) : Int) := (bits_nat .u32 32 (by decide) wraps_u32 a b ha hb).1
theorem or_u32 {a b : Nat} (ha : a < 4294967296) (hb : b < 4294967296) : bits .or .u32 a b = ((a ||| b : Nat) : Int) := (bits_nat .u32 32 (by decide) wraps_u32 a b ha hb).2
theorem xor_i64 {a b : Nat} (ha : a < 9223372036854775808) (hb : b < 9223372036854775808) : bits .xor .i64 a b = ((a ^^^ b : Nat) : Int) := bits_xor .i64 63 (by decide) wraps_i64 a b ha hb
theorem and_i64 {a b : Nat} (ha : a < 9223372036854775808) (hb : b < 9223372036854775808) : bits .and .i64 a b = ((a &&& b : Nat) : Int) := (bits_nat .i64 63 (by decide) wraps_i64 a b ha hb).1
theorem or_i64 {a b : Nat} (ha : a < 9223372036854775808) (hb : b < 9223372036854775808) : bits .or .i64 a b = ((a ||| b : Nat) : Int) := (bits_nat .i64 63 (by decide) wraps_i64 a b ha hb).2

theorem xor_lt8 {a b : Nat} (ha : a < 256) (hb : b < 256) : a ^^^ b < 256 := Nat.xor_lt_two_pow (n := 8) ha hb
theorem xor_lt32 {a b : Nat} (ha : a < 4294967296) (hb : b < 4294967296) : a ^^^ b < 4294967296 := Nat.xor_lt_two_pow (n := 32) ha hb

theorem wrapE_i64 {n : Int} (h0 : -9223372036854775808 ≤ n) (h1 : n ≤ 9223372036854775807) : wrapE .i64 n = n := by
  simp only [wrapE]; rw [IntKind.wrap_i64]; omega
end Go.Proofs.Ytgkplkmjnpofkaa.Abs
namespace Go.Proofs.Ytgkplkmjnpofkaa.Abs
open Go Go.RowKit

/-! ### 23. Bytes of texts, as naturals -/
def bn (s : ByteArray) (i : Nat) : Nat := if h : i < s.size then s[i].toNat else 0
theorem bn_lt (s : ByteArray) (i : Nat) : bn s i < 256 := by
  unfold bn
  split
  · exact UInt8.toNat_lt _
  · decide
theorem bt_nat (s : ByteArray) (i : Nat) : bt s (i : Int) = ((bn s i : Nat) : Int) := by
  unfold bt bn
  simp only [Int.toNat_natCast]
  split <;> rfl
/-- A text of told bytes. -/
def txt (l : List Nat) : ByteArray := ofInts (l.map fun (n : Nat) => (n : Int))
theorem txt_size (l : List Nat) : (txt l).size = l.length := by simp [txt, ofInts, ByteArray.size]
theorem ofInts_nat (l : List Nat) : ofInts (l.map fun (n : Nat) => (n : Int)) = txt l := rfl
theorem bn_txt {l : List Nat} (h : ∀ x ∈ l, x < 256) {i : Nat} (hi : i < l.length) : bn (txt l) i = l[i] := by
  unfold bn
  rw [dif_pos (by rw [txt_size]; exact hi)]
  simp only [txt, ofInts]
  show ((_ : Array UInt8)[i]'_).toNat = _
  simp
  have := h l[i] (List.getElem_mem hi)
  exact this
theorem bytesOf_nat (s : ByteArray) : bytesOf s = (s.data.toList.map fun b => b.toNat).map fun (n : Nat) => (n : Int) := by simp [bytesOf]
theorem bytesOf_get (s : ByteArray) (i : Nat) (h : i < s.size) : rd (bytesOf s) i = ((bn s i : Nat) : Int) := by
  unfold rd bytesOf bn
  rw [dif_pos h]
  have h2 : i < s.data.size := h
  have e : s.data[i]? = some s.data[i] := Array.getElem?_eq_getElem h2
  simp [List.getD_eq_getElem?_getD, e]
  rfl
theorem ofInts_bytesOf (s : ByteArray) : ofInts (bytesOf s) = s := by
  cases s with
  | mk d =>
    simp only [ofInts, bytesOf]
    congr 1
    apply Array.toList_inj.1
    simp
    rw [List.map_congr_left (g := id)]
    · simp
    · intro b _; simp
end Go.Proofs.Ytgkplkmjnpofkaa.Abs
namespace Go.Proofs.Ytgkplkmjnpofkaa.Abs
open Go Go.RowKit

/-! ### 24. Blocks behind that nobody asks for -/
theorem Tr.cut {β0 β : Loc} {H0 H : Heap} {w0 w : World} (h : Tr β0 H0 w0 β H w) (h0 : ∀ κ, H0.length ≤ κ → β0 κ = none) {n : Nat} (hn : H0.length ≤ n) (hn2 : n ≤ H.length) (hfl : flatH (H.take n) = true) :
    ∃ β', Tr β0 H0 w0 β' (H.take n) w ∧ ∀ κ, κ < n → β' κ = β κ := by
  let β' : Loc := fun κ => if κ < n then β κ else none
  have hlo : ∀ {κ : Nat}, κ < n → β' κ = β κ := fun h => by simp only [β', if_pos h]
  have hsome : ∀ {κ : Nat} {A : Place}, β' κ = some A → κ < n ∧ β κ = some A := by
    intro κ A e
    by_cases hk : κ < n
    · exact ⟨hk, by rwa [hlo hk] at e⟩
    · simp only [β', if_neg hk] at e; cases e
  have hget : ∀ {κ : Nat} {B : Blk}, (H.take n)[κ]? = some (some B) → H[κ]? = some (some B) ∧ flatRow B.row = true := by
    intro κ B e
    have hf : flatRow B.row = true := by
      unfold flatH at hfl
      rw [List.all_eq_true] at hfl
      exact hfl _ (List.mem_of_getElem? e)
    rw [List.getElem?_take] at e
    split at e
    · exact ⟨e, hf⟩
    · cases e
  refine ⟨β', ⟨fun κ A e => ?_, by simp; omega, fun κ A hk e => h.fix κ A hk (hsome e).2, ⟨⟨?_, ?_, fun κ A e => h.rel.spot κ A (hsome e).2⟩, ?_, ?_⟩, h.os, h.tape, h.output, h.size, h.frame, ?_⟩, fun κ hk => hlo hk⟩
  · have hk : κ < H0.length := by
      rcases Nat.lt_or_ge κ H0.length with g | g
      · exact g
      · rw [h0 κ g] at e; cases e
    rw [hlo (by omega)]; exact h.le κ A e
  · intro κ B A e1 e2
    obtain ⟨g1, g2⟩ := hget e1
    exact (h.rel.blk κ B A g1 (hsome e2).2).flat g2
  · intro κ κ' B B' A A' e1 e2 e3 e4
    exact h.rel.sep κ κ' B B' A A' (hget e1).1 (hget e2).1 (hsome e3).2 (hsome e4).2
  · intro κ hk
    have : ¬ κ < n := by simp at hk; omega
    simp only [β', if_neg this]
  · intro κ B g e1 e2 e3
    have hk : κ < n := by
      rw [List.getElem?_take] at e1
      split at e1
      · assumption
      · cases e1
    rw [hlo hk]; exact h.rel.glob κ B g (hget e1).1 e2 e3
  · intro κ B A e1 e2 e3
    exact h.muts κ B A (hget e1).1 e2 (hsome e3).2

theorem Ends.cut {P : Program} {fn : Func} {H0 : Heap} {todo : List Item} {T : Slots} {H : Heap} {v : Value} {Hf Hf2 : Heap} (n : Nat) (hn : H0.length ≤ n) (hn2 : n ≤ Hf.length) (hv : ren (List.range n) Hf.length v = v) (hH : Hf2 = Hf.take n) (hfl : flatH (Hf.take n) = true) (hE : Ends P fn H0 todo T H v Hf) : Ends P fn H0 todo T H v Hf2 := by
  subst hH
  intro β0 w0 β a w h0 htr ht hd b cs
  obtain ⟨a', w', t', ⟨q1, v', q2, β', q3, q4⟩, hs⟩ := hE β0 w0 β a w h0 htr ht hd b cs
  obtain ⟨β2, q5, q6⟩ := q4.cut h0 hn hn2 hfl
  refine ⟨a', w', t', ⟨q1, v', q2, β2, ?_, q5⟩, hs⟩
  rw [← hv] at q3
  refine ren_down (ι := List.range n) (bad := Hf.length) (fun κ A hA => ?_) q3
  rcases Nat.lt_or_ge κ n with h | h
  · rw [getD_some (a := κ) (by simp [h])] at hA
    rw [q6 κ h]; exact hA
  · rw [getD_none (by simpa using h), q4.rel.dom _ (Nat.le_refl _)] at hA; cases hA
theorem Ends.cutF {P : Program} {fn : Func} {H0 : Heap} {todo : List Item} {T : Slots} {H : Heap} {v : Value} {Hf Hf2 : Heap} (n : Nat) (hn : H0.length ≤ n) (hn2 : n ≤ Hf.length) (hv : Flat v) (hH : Hf2 = Hf.take n) (hfl : flatH (Hf.take n) = true) (hE : Ends P fn H0 todo T H v Hf) : Ends P fn H0 todo T H v Hf2 := by
  subst hH
  intro β0 w0 β a w h0 htr ht hd b cs
  obtain ⟨a', w', t', ⟨q1, v', q2, β', q3, q4⟩, hs⟩ := hE β0 w0 β a w h0 htr ht hd b cs
  obtain ⟨β2, q5, q6⟩ := q4.cut h0 hn hn2 hfl
  exact ⟨a', w', t', ⟨q1, v', q2, β2, (V_flat hv).2 ((V_flat hv).1 q3), q5⟩, hs⟩
end Go.Proofs.Ytgkplkmjnpofkaa.Abs
namespace Go.Proofs.Ytgkplkmjnpofkaa.Abs
open Go Go.RowKit

/-! ### 25. A list that is handed in from outside: one block that is only read -/
theorem list_in {W : World} {a : Addr} {len cap : Nat} {ty : TypeId} {R : Row} (hty : Nat.blt ty globMark = true) (hsp : a.spot = none) (hR : R.len = len) (hc : ∀ (i : Nat) v, R.cells[i]? = some v → W.cell? (a.add i) = some v) (hf : ∀ v ∈ R.cells, Flat1 v = true) (hl : len ≤ cap) :
    ∃ β : Loc, Rel β [some ⟨false, ty, R⟩] W ∧ V β (.slice (some ⟨0, 0, none⟩) R.len 0) (.slice (some a) len cap) := by
  let β : Loc := fun κ => if κ = 0 then some ⟨a, none⟩ else none
  have h0 : β 0 = some ⟨a, none⟩ := rfl
  have hs : ∀ {κ A}, β κ = some A → κ = 0 ∧ A = ⟨a, none⟩ := by
    intro κ A e
    by_cases hk : κ = 0
    · subst hk; rw [h0] at e; cases e; exact ⟨rfl, rfl⟩
    · simp only [β, if_neg hk] at e; cases e
  have hB : ∀ {κ : Nat} {B : Blk}, ([some ⟨false, ty, R⟩] : Heap)[κ]? = some (some B) → B = ⟨false, ty, R⟩ := by
    intro κ B e
    cases κ with
    | zero => simp at e; exact e.symm
    | succ κ => simp at e
  refine ⟨β, ⟨⟨?_, ?_, ?_⟩, ?_, ?_⟩, ?_⟩
  · intro κ B A e1 e2
    obtain ⟨_, rfl⟩ := hs e2
    obtain rfl := hB e1
    refine ⟨hsp, ?_⟩
    simp only [Bool.false_eq_true, if_false]
    exact ⟨trivial, fun j v hv => ⟨v, hc j v hv, (V1_flat (hf v (List.mem_of_getElem? hv))).2 rfl⟩⟩
  · intro κ κ' B B' A A' e1 e2 e3 e4 hne hw
    obtain rfl := hB e1
    cases hw
  · intro κ A e
    obtain ⟨_, rfl⟩ := hs e
    exact hsp
  · intro κ h
    have : κ ≠ 0 := by simp at h; omega
    simp only [β, if_neg this]
  · intro κ B g e1 e2 e3
    obtain rfl := hB e1
    have := Nat.le_of_ble_eq_true hty
    simp at e3; omega
  · subst hR
    exact V_slice.2 ⟨rfl, .inr ⟨⟨a, none⟩, rfl, a, cap, rfl, hl, fun _ => by simp [Addr.add], fun N h => by cases h⟩⟩
theorem nil_in {W : World} {ty : TypeId} {R : Row} (hty : Nat.blt ty globMark = true) (hR : R.len = 0) : ∃ β : Loc, Rel β [some ⟨false, ty, R⟩] W ∧ V β (.slice (some ⟨0, 0, none⟩) R.len 0) (.slice none 0 0) := by
  refine ⟨fun _ => none, ⟨⟨fun κ B A e1 e2 => by simp at e2, fun κ κ' B B' A A' e1 e2 e3 => by simp at e3, fun κ A e => by simp at e⟩, fun κ _ => rfl, fun κ B g e1 e2 e3 => by
    cases κ with
    | zero =>
      simp at e1; subst e1
      have := Nat.le_of_ble_eq_true hty
      simp at e3; omega
    | succ κ => simp at e1⟩, ?_⟩
  rw [hR]
  exact V_slice.2 ⟨rfl, .inl ⟨rfl, rfl⟩⟩
end Go.Proofs.Ytgkplkmjnpofkaa.Abs
namespace Go.Proofs.Ytgkplkmjnpofkaa.Abs
open Go Go.RowKit

/-! ### 26. Numbers and texts, told as naturals -/
def ii (l : List Nat) : List Int := l.map fun (n : Nat) => (n : Int)
theorem ii_len (l : List Nat) : (ii l).length = l.length := by simp [ii]
theorem ii_rd (l : List Nat) (i : Nat) : rd (ii l) i = ((l.getD i 0 : Nat) : Int) := by
  unfold rd ii
  rw [List.getD_eq_getElem?_getD, List.getD_eq_getElem?_getD, List.getElem?_map]
  cases l[i]? <;> rfl
theorem ii_set (l : List Nat) (i n : Nat) : List.set (ii l) i (n : Int) = ii (l.set i n) := by simp [ii, List.map_set]
theorem ii_app (l m : List Nat) : ii l ++ ii m = ii (l ++ m) := by simp [ii]
theorem ii_one (n : Nat) : [(n : Int)] = ii [n] := rfl
theorem ii_nil : ([] : List Int) = ii [] := rfl
theorem ii_rep (n : Nat) : List.replicate n (0 : Int) = ii (List.replicate n 0) := by simp [ii]
theorem ii_take (l : List Nat) (n : Nat) : List.take n (ii l) = ii (l.take n) := by simp [ii, List.map_take]
theorem ii_drop (l : List Nat) (n : Nat) : List.drop n (ii l) = ii (l.drop n) := by simp [ii, List.map_drop]

theorem w32 (n : Nat) : wrapE .u32 (n : Int) = ((n % 4294967296 : Nat) : Int) := by simp [wrapE]
theorem w8n (n : Nat) : wrapE .u8 (n : Int) = ((n % 256 : Nat) : Int) := by simp [wrapE]
theorem w64 (n : Nat) : wrapE .u64 (n : Int) = ((n % 18446744073709551616 : Nat) : Int) := by simp [wrapE]
theorem w32i (n : Int) : wrapE .u32 n = ((n % 4294967296).toNat : Int) := by simp only [wrapE]; omega
theorem w64i (n : Int) : wrapE .u64 n = ((n % 18446744073709551616).toNat : Int) := by simp only [wrapE]; omega
theorem w8i (n : Int) : wrapE .u8 n = ((n % 256).toNat : Int) := by simp only [wrapE]; omega
theorem add32 (a b : Nat) : wrapE .u32 ((a : Int) + (b : Int)) = (((a + b) % 4294967296 : Nat) : Int) := by rw [← Int.natCast_add, w32]
theorem mul32 (a b : Nat) : wrapE .u32 ((a : Int) * (b : Int)) = (((a * b) % 4294967296 : Nat) : Int) := by rw [← Int.natCast_mul, w32]
theorem shl32 (a k : Nat) : wrapE .u32 ((a : Int) * 2 ^ k) = (((a * 2 ^ k) % 4294967296 : Nat) : Int) := by
  rw [show (a : Int) * 2 ^ k = ((a * 2 ^ k : Nat) : Int) by simp, w32]
theorem shr_n (a k : Nat) : (a : Int) / 2 ^ k = ((a / 2 ^ k : Nat) : Int) := by simp

/-- The bytes of a text. -/
def bys (s : ByteArray) : List Nat := s.data.toList.map fun b => b.toNat
theorem bytesOf_bys (s : ByteArray) : bytesOf s = ii (bys s) := bytesOf_nat s
theorem bys_len (s : ByteArray) : (bys s).length = s.size := by simp [bys]
theorem bys_lt (s : ByteArray) : ∀ x ∈ bys s, x < 256 := by
  intro x hx
  simp only [bys, List.mem_map] at hx
  obtain ⟨b, _, rfl⟩ := hx
  exact UInt8.toNat_lt b
theorem bys_get (s : ByteArray) (i : Nat) (h : i < s.size) : (bys s)[i]'(by rw [bys_len]; exact h) = bn s i := by
  unfold bys bn
  rw [dif_pos h]
  simp
  rfl
theorem bys_getD (s : ByteArray) (i : Nat) : (bys s).getD i 0 = bn s i := by
  by_cases h : i < s.size
  · rw [List.getD_eq_getElem?_getD, List.getElem?_eq_getElem (by rw [bys_len]; exact h), Option.getD_some, bys_get s i h]
  · rw [List.getD_eq_getElem?_getD, List.getElem?_eq_none (by rw [bys_len]; omega)]
    unfold bn
    rw [dif_neg h]
    rfl
theorem txt_bys (s : ByteArray) : txt (bys s) = s := by
  unfold txt
  have : (bys s).map (fun (n : Nat) => (n : Int)) = bytesOf s := (bytesOf_nat s).symm
  rw [this, ofInts_bytesOf]
theorem bys_txt {l : List Nat} (h : ∀ x ∈ l, x < 256) : bys (txt l) = l := by
  apply List.ext_getElem
  · rw [bys_len, txt_size]
  · intro i h1 h2
    rw [bys_get _ _ (by rw [txt_size]; exact h2), bn_txt h h2]
theorem bys_inj {a b : ByteArray} (h : bys a = bys b) : a = b := by rw [← txt_bys a, ← txt_bys b, h]
theorem bys_app (a b : ByteArray) : bys (a ++ b) = bys a ++ bys b := by
  have : (a ++ b).data = a.data ++ b.data := ByteArray.data_append
  simp [bys, this]
theorem bys_extract (s : ByteArray) (i j : Nat) : bys (s.extract i j) = ((bys s).take j).drop i := by
  have : (s.extract i j).data = s.data.extract i j := ByteArray.data_extract
  simp [bys, this, List.map_take, List.map_drop, List.drop_take]
theorem bys_extract' (s : ByteArray) (i j : Nat) : bys (s.extract i j) = ((bys s).drop i).take (j - i) := by
  rw [bys_extract, List.drop_take]
theorem bys_empty : bys ByteArray.empty = [] := rfl
theorem ofInts_ii (l : List Nat) : ofInts (ii l) = txt l := rfl
theorem txt_app (l m : List Nat) : txt (l ++ m) = txt l ++ txt m := by
  have h : ∀ a b : ByteArray, a.data = b.data → a = b := fun a b h => by cases a; cases b; simp_all
  apply h
  rw [ByteArray.data_append]
  simp [txt, ofInts]
theorem bt_bys (s : ByteArray) (i : Nat) : bt s (i : Int) = (((bys s).getD i 0 : Nat) : Int) := by rw [bt_nat, bys_getD]
theorem bys_drop {s : ByteArray} {i : Nat} (h : i < s.size) : (bys s).drop i = (bys s).getD i 0 :: (bys s).drop (i + 1) := by
  rw [List.drop_eq_getElem_cons (by rw [bys_len]; exact h), bys_getD, bys_get s i h]
theorem bys_getD_lt (s : ByteArray) (i : Nat) : (bys s).getD i 0 < 256 := by rw [bys_getD]; exact bn_lt s i
theorem cst {at_ : Value → Heap → Prop} {v v2 : Value} {H H2 : Heap} (h : at_ v H) (e : v2 = v) (e2 : H2 = H) : at_ v2 H2 := by subst e; subst e2; exact h
theorem getD_lt_of {l : List Nat} {i m : Nat} (h : ∀ x ∈ l, x < m) (hm : 0 < m) : l.getD i 0 < m := by
  rw [List.getD_eq_getElem?_getD]
  cases hx : l[i]? with
  | none => exact hm
  | some x => exact h x (List.mem_of_getElem? hx)
theorem agg_len (k : IntKind) (l : List Nat) : Array.size (Row.cells (.ints k (ii l))).toArray = l.length := by simp [Row.cells, ii]
theorem tmod_bd (x : Int) (m : Nat) (h : 0 < m) : -(m : Int) < Int.tmod x m ∧ Int.tmod x m < m := by
  have h1 := Int.emod_nonneg x (b := m) (by omega)
  have h2 := Int.emod_lt_of_pos x (b := m) (by omega)
  rw [Int.tmod_eq_emod]
  split
  · simp; omega
  · rename_i hn
    have : x % m ≠ 0 := fun e => hn (.inr (Int.dvd_of_emod_eq_zero e))
    simp; omega
theorem tmod_twice (x : Int) (m : Nat) (h : 0 < m) : Int.tmod (Int.tmod x m + m) m = (((x % m).toNat : Nat) : Int) ∧ (x % m).toNat < m := by
  have h1 := tmod_bd x m h
  have h2 := Int.emod_nonneg x (b := m) (by omega)
  have h3 := Int.emod_lt_of_pos x (b := m) (by omega)
  refine ⟨?_, by omega⟩
  rw [Int.tmod_eq_emod_of_nonneg (by omega), Int.add_emod_right]
  have : Int.tmod x m % m = x % m := by
    rw [Int.tmod_eq_emod]
    split <;> simp
  rw [this]; omega
theorem wf_nat {k : IntKind} {a : Int} (h : (Lit.int k a).wf = true) (hk : k.signed = false) : ∃ n : Nat, a = (n : Int) ∧ n < 2 ^ k.bits := by
  have h2 : 0 ≤ a ∧ a ≤ 2 ^ k.bits - 1 := by simpa [Lit.wf, IntKind.min, IntKind.max, hk] using h
  refine ⟨a.toNat, by omega, ?_⟩
  have : ((2 ^ k.bits : Nat) : Int) = 2 ^ k.bits := by simp
  omega
theorem wfu8 {a : Int} (h : (Lit.int .u8 a).wf = true) : ∃ n : Nat, a = (n : Int) ∧ n < 256 := wf_nat h rfl
theorem wfu32 {a : Int} (h : (Lit.int .u32 a).wf = true) : ∃ n : Nat, a = (n : Int) ∧ n < 4294967296 := wf_nat h rfl
theorem wfi64 {a : Int} (h : (Lit.int .i64 a).wf = true) : -9223372036854775808 ≤ a ∧ a ≤ 9223372036854775807 := by
  simpa [Lit.wf, IntKind.min, IntKind.max, IntKind.bits, IntKind.signed] using h
end Go.Proofs.Ytgkplkmjnpofkaa.Abs
namespace Go.Proofs.Ytgkplkmjnpofkaa.Abs
open Go Go.RowKit

/-! ### 27. What is handed in from outside: blocks that are only read, one behind the other -/
def RoH (H : Heap) : Prop := ∀ (κ : Nat) (B : Blk), H[κ]? = some (some B) → B.wr = false
theorem RoH.nil : RoH [] := fun κ B h => by simp at h
theorem app_get {H : Heap} {B B' : Blk} {κ : Nat} (h : (H ++ [some B'])[κ]? = some (some B)) : H[κ]? = some (some B) ∨ (κ = H.length ∧ B = B') := by
  rw [List.getElem?_append] at h
  split at h
  · exact .inl h
  · rename_i hge
    rcases Nat.lt_trichotomy κ H.length with h1 | h1 | h1
    · omega
    · subst h1; simp at h; exact .inr ⟨rfl, h.symm⟩
    · rw [List.getElem?_eq_none (by simp; omega)] at h; cases h
theorem RoH.push {H : Heap} (h : RoH H) (ty : TypeId) (R : Row) : RoH (H ++ [some ⟨false, ty, R⟩]) := by
  intro κ B e
  rcases app_get e with e | ⟨_, rfl⟩
  · exact h κ B e
  · rfl
theorem push_ro {W : World} {β : Loc} {H : Heap} (hR : Rel β H W) (hro : RoH H) {a : Addr} {ty : TypeId} {R : Row} (hsp : a.spot = none) (hc : ∀ (i : Nat) v, R.cells[i]? = some v → W.cell? (a.add i) = some v) (hf : ∀ v ∈ R.cells, Flat1 v = true)
    (hg : ∀ g, ty = globMark + g → a = ⟨g, 0, none⟩) : ∃ β' : Loc, β.le β' ∧ β' H.length = some ⟨a, none⟩ ∧ Rel β' (H ++ [some ⟨false, ty, R⟩]) W := by
  let β' : Loc := fun κ => if κ = H.length then some ⟨a, none⟩ else β κ
  have hself : β' H.length = some ⟨a, none⟩ := by simp [β']
  have hold : ∀ κ, κ ≠ H.length → β' κ = β κ := fun κ e => by simp only [β', if_neg e]
  have hle : β.le β' := by
    intro κ A hA
    by_cases e : κ = H.length
    · subst e; rw [hR.dom _ (Nat.le_refl _)] at hA; cases hA
    · rw [hold κ e]; exact hA
  have hlt : ∀ {κ : Nat} {x : Option Blk}, H[κ]? = some x → κ < H.length := fun h => (List.getElem?_eq_some_iff.1 h).1
  refine ⟨β', hle, hself, ⟨⟨?_, ?_, ?_⟩, ?_, ?_⟩⟩
  · intro κ B A e1 e2
    rcases app_get e1 with e | ⟨rfl, rfl⟩
    · rw [hold κ (by have := hlt e; omega)] at e2
      exact (hR.blk κ B A e e2).same hle rfl
    · rw [hself] at e2; cases e2
      refine ⟨hsp, ?_⟩
      simp only [Bool.false_eq_true, if_false]
      exact ⟨trivial, fun j v hv => ⟨v, hc j v hv, (V1_flat (hf v (List.mem_of_getElem? hv))).2 rfl⟩⟩
  · intro κ κ' B B' A A' e1 e2 e3 e4 hne hw
    rcases app_get e1 with e | ⟨_, rfl⟩
    · rw [hro κ B e] at hw; cases hw
    · cases hw
  · intro κ A e
    by_cases hk : κ = H.length
    · rw [hk, hself] at e; cases e; exact hsp
    · rw [hold κ hk] at e; exact hR.spot κ A e
  · intro κ h
    simp at h
    rw [hold κ (by omega)]; exact hR.dom κ (by omega)
  · intro κ B g e1 e2 e3
    rcases app_get e1 with e | ⟨rfl, rfl⟩
    · exact hle _ _ (hR.glob κ B g e e2 e3)
    · rw [hself, hg g e3]
theorem push_none {W : World} {β : Loc} {H : Heap} (hR : Rel β H W) (hro : RoH H) {ty : TypeId} {R : Row} (hty : Nat.blt ty globMark = true) : Rel β (H ++ [some ⟨false, ty, R⟩]) W := by
  have hnone : β H.length = none := hR.dom _ (Nat.le_refl _)
  refine ⟨⟨?_, ?_, hR.spot⟩, fun κ h => hR.dom κ (by simp at h; omega), ?_⟩
  · intro κ B A e1 e2
    rcases app_get e1 with e | ⟨rfl, rfl⟩
    · exact hR.blk κ B A e e2
    · rw [hnone] at e2; cases e2
  · intro κ κ' B B' A A' e1 e2 e3 e4 hne hw
    rcases app_get e1 with e | ⟨_, rfl⟩
    · rw [hro κ B e] at hw; cases hw
    · cases hw
  · intro κ B g e1 e2 e3
    rcases app_get e1 with e | ⟨_, rfl⟩
    · exact hR.glob κ B g e e2 e3
    · exfalso
      have h1 := Nat.le_of_ble_eq_true hty
      have h2 : ty = globMark + g := e3
      rw [h2] at h1
      exact Nat.not_succ_le_self _ (Nat.le_trans (Nat.succ_le_succ (Nat.le_add_right globMark g)) h1)

/-- A package-level table. -/
theorem glob_in {W : World} {β : Loc} {H : Heap} (hR : Rel β H W) (hro : RoH H) (g : Nat) (k : IntKind) (zs : List Int) (hc : ∀ i, i < zs.length → W.cell? ⟨g, i, none⟩ = some (.int k (zs.getD i 0))) :
    ∃ β' : Loc, β.le β' ∧ Rel β' (H ++ [some ⟨false, globMark + g, .ints k zs⟩]) W := by
  obtain ⟨β', h1, _, h3⟩ := push_ro hR hro (a := ⟨g, 0, none⟩) (ty := globMark + g) (R := .ints k zs) rfl (by
    intro i v hv
    simp only [Row.cells, List.getElem?_map] at hv
    cases hz : zs[i]? with
    | none => simp [hz] at hv
    | some z =>
      simp [hz] at hv
      have hlt := (List.getElem?_eq_some_iff.1 hz).1
      have := hc i hlt
      rw [List.getD_eq_getElem?_getD, hz] at this
      rw [add_none rfl, Nat.zero_add, this, ← hv]; rfl) (by
    intro v hv
    obtain ⟨z, _, rfl⟩ := List.mem_map.1 hv
    rfl) (by intro g' e; have : g' = g := (Nat.add_left_cancel e).symm
             rw [this])
  exact ⟨β', h1, h3⟩

/-- A list of texts. -/
theorem strings_in {HH : Type} {enc : TypeId × Value → HH} {P : Program} {W : World} {base : Nat} {held : Bool} {spare : Nat → Bool} {β : Loc} {H : Heap} (hR : Rel β H W) (hro : RoH H) {t e : TypeId} (ht : P.underlying t = some (.slice e)) (he : P.underlying e = some .string) (hce : P.cellsOf e = 1) (hty : Nat.blt e globMark = true)
    {fuel : Nat} {b : Option Addr} {l c : Nat} {x : DataW HH × List MemPlace} (hok : ∀ a, b = some a → a.spot = none) (hf : DataW.trod enc P W base spare held fuel t [.slice b l c] = some x) :
    ∃ (ss : List ByteArray) (β' : Loc), ss.length ≤ 9223372036854775807 ∧ (∀ s ∈ ss, s.size ≤ maxLen) ∧ β.le β' ∧ Rel β' (H ++ [some ⟨false, e, .strs ss⟩]) W ∧ V β' (.slice (some ⟨H.length, 0, none⟩) ss.length 0) (.slice b l c) := by
  rcases Go.ChangeShapes.open_strings ht he hce hf with ⟨hcs, hx⟩ | ⟨a, len', cap', ss, hcs, _, hl, hm, hz, hx, hcell, hws⟩
  · simp at hcs
    obtain ⟨rfl, rfl, rfl⟩ := hcs
    exact ⟨[], β, by simp, by simp, Loc.le_refl _, push_none hR hro hty, V_slice.2 ⟨rfl, .inl ⟨rfl, rfl⟩⟩⟩
  · simp at hcs
    obtain ⟨rfl, rfl, rfl⟩ := hcs
    have hlen : l ≤ ss.length := by rw [hz]; split <;> omega
    obtain ⟨β', h1, h2, h3⟩ := push_ro hR hro (a := a) (ty := e) (R := .strs (ss.take l)) (hok a rfl) (by
      intro j v hj
      simp only [Row.cells, List.getElem?_map, List.getElem?_take] at hj
      split at hj
      · rename_i hjl
        have hjs : j < ss.length := by omega
        rw [List.getElem?_eq_getElem hjs] at hj
        simp at hj; subst hj
        have := hcell j hjs
        rwa [List.getD_eq_getElem?_getD, List.getElem?_eq_getElem hjs] at this
      · simp at hj) (by
      intro v hv
      obtain ⟨x, _, rfl⟩ := List.mem_map.1 hv
      rfl) (by
      intro g eg
      exfalso
      have h1 := Nat.le_of_ble_eq_true hty
      rw [eg] at h1
      exact Nat.not_succ_le_self _ (Nat.le_trans (Nat.succ_le_succ (Nat.le_add_right globMark g)) h1))
    have hlt : (ss.take l).length = l := by simp; omega
    refine ⟨ss.take l, β', ?_, fun s hs => hws s (List.mem_of_mem_take hs), h1, h3, ?_⟩
    · have : maxLen = 9223372036854775807 := by decide
      omega
    · rw [hlt]
      exact V_slice.2 ⟨rfl, .inr ⟨⟨a, none⟩, h2, a, c, rfl, hl, fun _ => by simp [Addr.add], fun N h => by cases h⟩⟩
theorem okWide_arr {P : Program} {W : World} {r : Reach} {base : Nat} {t : TypeId} {v : Value} {n : Nat} {e : TypeId} (ht : P.underlying t = some (.array n e)) (h : Value.okWide P W r base t v) : ∃ cs, v = .agg cs ∧ cs.size = P.cellsOf t := by
  unfold Value.okWide at h
  rw [ht] at h
  cases v <;> simp_all
theorem list_of_pieces {n : Nat} {l m : List Value} (hl : l.length = n) (h : ∀ j, j < n → (l.drop j).take 1 = (m.drop j).take 1) (hm : m.length = n := by rfl) : l = m := by
  apply List.ext_getElem?
  intro j
  by_cases hj : j < n
  · have := congrArg List.head? (h j hj)
    simpa [List.head?_take, List.head?_drop] using this
  · rw [List.getElem?_eq_none (by omega), List.getElem?_eq_none (by omega)]
end Go.Proofs.Ytgkplkmjnpofkaa.Abs
