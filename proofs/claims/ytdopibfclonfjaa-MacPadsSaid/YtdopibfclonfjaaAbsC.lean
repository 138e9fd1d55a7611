/- A strings.Builder of a function's own beside the told values. -/
import Derived.Test.YtdopibfclonfjaaAbsB
import Derived.Shelf.Strings.Builder1
set_option linter.unusedVariables false
set_option linter.unusedSimpArgs false
set_option maxRecDepth 100000
namespace Go.Proofs.Ytdopibfclonfjaa.Abs
open Go Go.RowKit

/-! ### 28. A strings.Builder of the function's own: a block that is not told, with what it holds beside -/
theorem isBuilder_same {T e : TypeId} {B b : Nat} {bs : List Value} {w w' : World} (h : Lib.IsBuilder T e B b bs w) (hk : ∀ k : Nat, B ≤ k → k < w.heap.size → w'.heap[k]? = w.heap[k]?) : Lib.IsBuilder T e B b bs w' := by
  have at_ : ∀ p, Lib.BuilderAt T e B b p bs w → Lib.BuilderAt T e B b p bs w' := by
    rintro p ⟨hB, v, hb, hown, hne⟩
    have lt : ∀ {g : Nat} {o : Obj}, w.heap[g]? = some o → g < w.heap.size := fun h => (Array.getElem?_eq_some_iff.1 h).1
    refine ⟨hB, v, by rw [hk b hB (lt hb)]; exact hb, ⟨hown.1, ?_⟩, hne⟩
    rcases hown.2 with h | ⟨g, cap, cur, h1, h2, h3, h4⟩
    · exact .inl h
    · exact .inr ⟨g, cap, cur, h1, h2, by rw [hk g h2 (lt h3)]; exact h3, h4⟩
  exact h.imp (at_ _) (at_ _)

structure Bld (Tb Te : TypeId) (κ m : Nat) (u : ByteArray) (s0 : Nat) (β : Loc) (H : Heap) (w : World) : Prop where
  ex : ∃ (B b : Nat) (c : Option Nat), s0 ≤ B ∧ B ≤ w.heap.size ∧ β κ = some ⟨⟨b, 0, none⟩, c⟩ ∧ Lib.IsBuilder Tb Te B b (Lib.strCells u) w ∧
    ∀ (i : Nat) (C : Blk) (A : Place), i < m → H[i]? = some (some C) → β i = some A → (C.wr = true ∨ C.row.cells ≠ []) → A.addr.block < B

def EndsB (P : Program) (fn : Func) (Tb Te : TypeId) (H0 : Heap) (κ m : Nat) (u : ByteArray) (todo : List Item) (T : Slots) (H : Heap) (v : Value) (Hf : Heap) : Prop :=
  ∀ β0 w0 β a w, (∀ κ, H0.length ≤ κ → β0 κ = none) → Tr β0 H0 w0 β H w → TR β T a → a.defers = [] → Bld Tb Te κ m u w0.heap.size β H w → Runs P todo a w (fun a' w' => a'.defers = [] ∧ ∃ v', (results fn a'.tmps).run P w' = .ok v' w' ∧ ∃ β', V β' v v' ∧ Tr β0 H0 w0 β' Hf w')

section
variable {P : Program} {Θ : Types} {fn : Func} {Tb Te : TypeId} {H0 : Heap} {κ m : Nat} {u : ByteArray} {v : Value} {Hf : Heap}

/-- The builder is asked no more. -/
theorem EndsB.done {todo : List Item} {T : Slots} {H : Heap} (h : Ends P fn H0 todo T H v Hf) : EndsB P fn Tb Te H0 κ m u todo T H v Hf :=
  fun β0 w0 β a w h0 htr ht hd _ => h β0 w0 β a w h0 htr ht hd

def low (m : Nat) (H : Heap) : Bool := (H.drop m).all fun x => match x with | some _ => false | none => true
theorem low_ok {m : Nat} {H : Heap} (h : low m H = true) : ∀ (i : Nat) (C : Blk), H[i]? = some (some C) → i < m := by
  intro i C hi
  rcases Nat.lt_or_ge i m with g | g
  · exact g
  · unfold low at h
    rw [List.all_eq_true] at h
    have : (H.drop m)[i - m]? = some (some C) := by rw [List.getElem?_drop, show m + (i - m) = i by omega]; exact hi
    have := h _ (List.mem_of_getElem? this)
    simp at this
def keepOk : Nat → Heap → Heap → Prop
  | 0, _, _ => True
  | _ + 1, _, [] => True
  | _ + 1, [], _ :: _ => False
  | m + 1, _ :: r, none :: r' => keepOk m r r'
  | m + 1, some C :: r, some C' :: r' => (C.wr = true ∨ C' = C) ∧ keepOk m r r'
  | _ + 1, none :: _, some _ :: _ => False
theorem keepOk_ok : ∀ {m : Nat} {H H' : Heap}, keepOk m H H' → ∀ (i : Nat) (C' : Blk), i < m → H'[i]? = some (some C') → ∃ C, H[i]? = some (some C) ∧ (C.wr = true ∨ C' = C)
  | 0, _, _, _, i, _, hi, _ => by omega
  | m + 1, H, [], _, i, _, _, h => by simp at h
  | m + 1, [], _ :: _, h, _, _, _, _ => by simp [keepOk] at h
  | m + 1, x :: r, none :: r', h, i, C', hi, hC => by
    cases i with
    | zero => simp at hC
    | succ i => simpa using keepOk_ok (m := m) (H := r) (H' := r') (by simpa [keepOk] using h) i C' (by omega) (by simpa using hC)
  | m + 1, some C :: r, some D :: r', h, i, C', hi, hC => by
    simp only [keepOk] at h
    cases i with
    | zero => simp at hC; subst hC; exact ⟨C, by simp, h.1⟩
    | succ i => simpa using keepOk_ok h.2 i C' (by omega) (by simpa using hC)
  | m + 1, none :: _, some _ :: _, h, _, _, _, _ => by simp [keepOk] at h

theorem EndsB.run (hΘ : Θ.Ok P) (hm : P.follows .mixedOrders = true) {n : Nat} {todo todo' : List Item} {T T' : Slots} {H H' : Heap} {hs : List Hint} {C : Prop}
    (h : mrun P Θ n todo T H hs = some ⟨todo', T', H', C, []⟩) (hC : C) (hlo : low m H = true ∧ m ≤ H.length) (hk : keepOk m H H') (hE : EndsB P fn Tb Te H0 κ m u todo' T' H' v Hf) : EndsB P fn Tb Te H0 κ m u todo T H v Hf := by
  intro β0 w0 β a w h0 htr ht hd ⟨B, b, c, b1, b2, b3, b4, b5⟩
  refine mrun_ok hΘ hm n h hC ht htr.rel fun β' a' w' t' d' tr' => hE β0 w0 β' a' w' h0 (htr.trans tr') t' (d'.trans hd) ⟨B, b, c, b1, Nat.le_trans b2 tr'.size, tr'.le _ _ b3, isBuilder_same b4 fun k g1 g2 => ?_, ?_⟩
  · refine tr'.frame k g2 fun κ1 B1 A1 e1 e2 e3 e => ?_
    have := b5 κ1 B1 A1 (low_ok hlo.1 _ _ e1) e1 e3 (.inl e2)
    omega
  · intro i C' A hi e1 e2 e3
    obtain ⟨C, g1, g2⟩ := keepOk_ok hk i C' hi e1
    refine b5 i C A hi g1 (tr'.fix i A (by omega) e2) ?_
    rcases g2 with g | g
    · exact .inl g
    · subst g; exact e3

theorem EndsB.rekey (ι : List Nat) (κ' m' : Nat) {todo : List Item} {T T' : Slots} {H H' : Heap} (hι : nodupB ι = true ∧ ι.take H0.length = List.range H0.length ∧ H0.length ≤ ι.length) (hH : H' = view H ι) (hfl : flatH H' = true) (hT : slotsOk ι H.length T' T)
    (hκ : ι[κ']? = some κ) (hmm : (ι.take m').all (fun k => Nat.blt k m || Nat.beq k κ) = true ∧ H[κ]? = some none) (hE : EndsB P fn Tb Te H0 κ' m' u todo T' H' v Hf) : EndsB P fn Tb Te H0 κ m u todo T H v Hf := by
  obtain ⟨hnd, hid, hlen⟩ := hι
  subst hH
  intro β0 w0 β a w h0 htr ht hd hB
  let β1 : Loc := fun κ => match ι[κ]? with | some k => β k | none => none
  have hβs : ∀ {i k : Nat}, ι[i]? = some k → β1 i = β k := fun h => by simp only [β1, h]
  have hβn : ∀ {i : Nat}, ι.length ≤ i → β1 i = none := fun h => by simp only [β1, List.getElem?_eq_none h]
  have hR := htr.rel
  have hback : Back ι H.length β1 β := by
    intro κ A hA
    rcases Nat.lt_or_ge κ ι.length with h | h
    · have := List.getElem?_eq_getElem h
      rw [hβs this]
      rwa [getD_some this] at hA
    · rw [getD_none h, hR.dom _ (Nat.le_refl _)] at hA; cases hA
  have hview : ∀ {i : Nat} {B : Blk}, (view H ι)[i]? = some (some B) → ∃ k, ι[i]? = some k ∧ H[k]? = some (some B) ∧ flatRow B.row = true := by
    intro i B h
    have hf : flatRow B.row = true := by
      unfold flatH at hfl
      rw [List.all_eq_true] at hfl
      exact hfl _ (List.mem_of_getElem? h)
    simp only [view, List.getElem?_map] at h
    cases hk : ι[i]? with
    | none => simp [hk] at h
    | some k => simp [hk] at h; exact ⟨k, rfl, key?_ok (by unfold key?; rw [List.getD_eq_getElem?_getD]; exact h), hf⟩
  have hlow : ∀ {i : Nat}, i < H0.length → ι[i]? = some i := by
    intro i hi
    have : (ι.take H0.length)[i]? = some i := by rw [hid]; simp [hi]
    rwa [List.getElem?_take, if_pos hi] at this
  have htr' : Tr β0 H0 w0 β1 (view H ι) w := by
    refine ⟨?_, by simpa [view] using hlen, ?_, ⟨⟨?_, ?_, ?_⟩, ?_, ?_⟩, htr.os, htr.tape, htr.output, htr.size, htr.frame, ?_⟩
    · intro κ A h
      rcases Nat.lt_or_ge κ H0.length with hl | hl
      · rw [hβs (hlow hl)]; exact htr.le κ A h
      · rw [h0 κ hl] at h; cases h
    · intro κ A hl h
      rw [hβs (hlow hl)] at h
      exact htr.fix κ A hl h
    · intro i B A h1 h2
      obtain ⟨k, h3, h4, hf⟩ := hview h1
      rw [hβs h3] at h2
      exact (hR.blk k B A h4 h2).flat hf
    · intro i j B B' A A' h1 h2 h3 h4 hne hw hn
      obtain ⟨k, e1, e2, _⟩ := hview h1
      obtain ⟨k', e3, e4, _⟩ := hview h2
      rw [hβs e1] at h3
      rw [hβs e3] at h4
      exact hR.sep k k' B B' A A' e2 e4 h3 h4 (fun e => hne (nodupB_ok hnd i j k e1 (e ▸ e3))) hw hn
    · intro i A h
      rcases Nat.lt_or_ge i ι.length with hl | hl
      · rw [hβs (List.getElem?_eq_getElem hl)] at h; exact hR.spot _ _ h
      · rw [hβn hl] at h; cases h
    · intro κ h
      exact hβn (by simpa [view] using h)
    · intro i B g h1 h2 h3
      obtain ⟨k, e1, e2, _⟩ := hview h1
      rw [hβs e1]; exact hR.glob k B g e2 h2 h3
    · intro i B A h1 h2 h3
      obtain ⟨k, e1, e2, _⟩ := hview h1
      rw [hβs e1] at h3
      exact htr.muts k B A e2 h2 h3
  obtain ⟨hTl, hTg⟩ := slotsOk_get hT
  refine hE β0 w0 β1 a w h0 htr' ⟨by rw [hTl]; exact ht.len, fun i u hu => ?_⟩ hd ?_
  · obtain ⟨v', h1, h2⟩ := ht.at_ i _ (hTg i u hu)
    exact ⟨v', h1, ren_down hback h2⟩
  · obtain ⟨B, b, c, b1, b2, b3, b4, b5⟩ := hB
    refine ⟨B, b, c, b1, b2, by rw [hβs hκ]; exact b3, b4, fun i C A hi e1 e2 e3 => ?_⟩
    obtain ⟨k, g1, g2, _⟩ := hview e1
    rw [hβs g1] at e2
    have hkm : k < m := by
      have h1 := hmm.1
      rw [List.all_eq_true] at h1
      have : (ι.take m')[i]? = some k := by rw [List.getElem?_take, if_pos hi]; exact g1
      have := h1 _ (List.mem_of_getElem? this)
      rw [Bool.or_eq_true] at this
      rcases this with h | h
      · exact Nat.le_of_ble_eq_true h
      · have := Nat.eq_of_beq_eq_true h
        subst this
        rw [hmm.2] at g2; cases g2
    exact b5 k C A hkm g2 e2 e3

/-- 'var b strings.Builder'. -/
theorem Ends.builder {id : Nat} {ops : Array Oper} {o : Oper} {k : List Item} {T : Slots} {H : Heap} (hops : ops = #[o]) (ho : o.op = .alloc Tb) (hg : o.guard = none) (hz : ∀ w, (zeroValue Tb).run P w = .ok (.agg #[.pointer none, .slice none 0 0]) w)
    (hE : EndsB P fn Tb Te H0 H.length H.length ByteArray.empty k (setSlot T o.dst (.pointer (some ⟨H.length, 0, none⟩))) (H ++ [none]) v Hf) : Ends P fn H0 (.code (.region id ops false) :: k) T H v Hf := by
  subst hops
  intro β0 w0 β a w h0 htr ht hd
  refine Runs.code (wp_region ?_)
  have hR := htr.rel
  have hrun : (execOp a.eval o).run P w = .ok (.value (.pointer (some ⟨w.heap.size, 0, none⟩))) (w.alloc (.cells #[.pointer none, .slice none 0 0] Tb)) := by
    unfold execOp
    simp [ho, Instr.alloc, hz, newVar_run, Value.cells]
  have hr : List.range (#[o] : Array Oper).size = [0] := rfl
  rw [hr]
  simp only [wpOps]
  have ho0 : (#[o] : Array Oper)[0]? = some o := rfl
  simp only [ho0]
  rw [if_pos (by simp [Region.wanted, hg])]
  refine .inl ?_
  unfold Oper.wp
  rw [hrun]
  refine ⟨trivial, ?_⟩
  let β' : Loc := fun κ => if κ = H.length then some ⟨⟨w.heap.size, 0, none⟩, some 2⟩ else β κ
  have hlo : ∀ {κ : Nat}, κ < H.length → β' κ = β κ := fun h => by simp only [β', if_neg (Nat.ne_of_lt h)]
  have hself : β' H.length = some ⟨⟨w.heap.size, 0, none⟩, some 2⟩ := by simp [β']
  have hle : β.le β' := by
    intro κ A hA
    by_cases e : κ = H.length
    · subst e; rw [hR.dom _ (Nat.le_refl _)] at hA; cases hA
    · simp only [β', if_neg e]; exact hA
  have hget : ∀ {κ : Nat} {C : Blk}, (H ++ [none])[κ]? = some (some C) → H[κ]? = some (some C) ∧ κ < H.length := by
    intro κ C e
    rw [List.getElem?_append] at e
    split at e
    · exact ⟨e, by assumption⟩
    · rename_i hge
      rcases Nat.lt_trichotomy κ H.length with h1 | h1 | h1
      · omega
      · subst h1; simp at e
      · rw [List.getElem?_eq_none (by simp; omega)] at e; cases e
  have tr : Tr β H w β' (H ++ [none]) (w.alloc (.cells #[.pointer none, .slice none 0 0] Tb)) := by
    refine ⟨hle, by simp, fun κ A hκ e => by rwa [hlo hκ] at e, ⟨⟨?_, ?_, ?_⟩, ?_, ?_⟩, rfl, rfl, rfl, by rw [alloc_size]; omega, fun b hb _ => Below.heap_alloc w _ b hb, ?_⟩
    · intro κ C A e1 e2
      obtain ⟨g1, g2⟩ := hget e1
      rw [hlo g2] at e2
      exact (hR.blk κ C A g1 e2).ext hle (alloc_ext w _)
    · intro κ κ' C C' A A' e1 e2 e3 e4
      obtain ⟨g1, g2⟩ := hget e1
      obtain ⟨g3, g4⟩ := hget e2
      rw [hlo g2] at e3
      rw [hlo g4] at e4
      exact hR.sep κ κ' C C' A A' g1 g3 e3 e4
    · intro κ A e
      by_cases h : κ = H.length
      · subst h; rw [hself] at e; cases e; rfl
      · simp only [β', if_neg h] at e; exact hR.spot κ A e
    · intro κ hκ
      simp at hκ
      simp only [β', if_neg (show ¬ κ = H.length by omega)]
      exact hR.dom κ (by omega)
    · intro κ C g e1 e2 e3
      obtain ⟨g1, g2⟩ := hget e1
      rw [hlo g2]; exact hR.glob κ C g g1 e2 e3
    · intro κ C A e1 e2 e3
      obtain ⟨g1, g2⟩ := hget e1
      rw [hlo g2] at e3
      exact .inr ⟨κ, C, A, g1, e2, e3, rfl⟩
  refine hE β0 w0 β' _ _ h0 (htr.trans tr) ((ht.mono hle).put o.dst (V_ptr.2 ⟨_, hself, rfl, rfl⟩)) ((put_defers a o.dst _).trans hd) ?_
  refine ⟨w.heap.size, w.heap.size, some 2, htr.size, by rw [alloc_size]; omega, hself, Lib.fresh_isBuilder Tb Te w, fun i C A hi e1 e2 e3 => ?_⟩
  obtain ⟨g1, g2⟩ := hget e1
  rw [hlo g2] at e2
  exact (hR.blk i C A g1 e2).lt e3

/-- What a method of the builder's does. -/
structure BOk (P : Program) (Tb Te : TypeId) (f : FuncId) (xs : List Value) (u : ByteArray) (v : Value) (u' : Option ByteArray) : Prop where
  fn : ∃ fn, P.funcs[f]? = some fn ∧ (fn.name == "runtime.NumGoroutine") = false ∧ fn.body.isSome = true
  goes : ∀ (B b : Nat) (w : World), Lib.IsBuilder Tb Te B b (Lib.strCells u) w → B ≤ w.heap.size →
    Calls P f (.pointer (some ⟨b, 0, none⟩) :: xs).toArray w (fun e w' => e = .returned v ∧ Below B w w' ∧ ∀ x, u' = some x → Lib.IsBuilder Tb Te B b (Lib.strCells x) w')


theorem evSeq_okK (hΘ : Θ.Ok P) {ops : Array Oper} {Q : Exit → Act → World → Prop} (l2 : List Nat) : ∀ (l : List Oper) (k : Nat) (T : Slots) (H : Heap) (hs : List Hint) (r : ROut) (β : Loc) (a : Act) (w : World), (∀ j : Nat, j < l.length → l[j]? = ops[k + j]?) →
    evSeq P Θ ops.toList l T H hs = some r → r.C → TR β T a → Rel β H w → (∀ β' a' w', TR β' r.T a' → a'.defers = a.defers → Tr β H w β' r.H w' → wpOps P ops Q l2 a' w') → wpOps P ops Q (List.range' k l.length ++ l2) a w
  | [], k, T, H, hs, r, β, a, w, hl, h, hC, ht, hR, hQ => by
    simp [evSeq] at h; subst h
    simp only [List.length_nil, List.range'_zero, List.nil_append]
    exact hQ β a w ht rfl (Tr.refl hR)
  | o :: rest, k, T, H, hs, r, β, a, w, hl, h, hC, ht, hR, hQ => by
    have ho : ops[k]? = some o := by simpa using (hl 0 (by simp)).symm
    have hl' : ∀ j : Nat, j < rest.length → rest[j]? = ops[k + 1 + j]? := fun j hj => by have := hl (j + 1) (by simpa using hj); simpa [Nat.add_assoc, Nat.add_comm 1 j] using this
    simp only [List.length_cons, List.range'_succ, List.cons_append, wpOps, ho]
    unfold evSeq at h
    split at h
    · rename_i G hs1 hg
      split at h
      · rename_i q hq
        split at h
        · rename_i r' hr
          simp at h; subst h
          obtain ⟨c1, c2, c3⟩ := hC
          rw [if_pos (evGuard_ok hg c1 ht)]
          refine .inl (evS_ok hΘ hq c2 ht hR _ _ fun β' v' w' hv htr => ?_)
          refine evSeq_okK hΘ l2 rest (k + 1) _ _ _ r' β' _ w' hl' hr c3 ((ht.mono htr.le).put o.dst hv) htr.rel fun β2 a2 w2 t2 d2 tr2 => hQ β2 a2 w2 t2 (d2.trans (put_defers a o.dst v')) (htr.trans tr2)
        · simp at h
      · simp at h
    · rename_i G hs1 hg
      split at h
      · rename_i r' hr
        simp at h; subst h
        obtain ⟨c1, c3⟩ := hC
        rw [if_neg (by rw [evGuard_ok hg c1 ht]; simp)]
        exact evSeq_okK hΘ l2 rest (k + 1) _ _ _ r' β _ w hl' hr c3 (ht.put o.dst V_undef) hR fun β2 a2 w2 t2 d2 tr2 => hQ β2 a2 w2 t2 (d2.trans (put_defers a o.dst undef)) tr2
      · simp at h
    · simp at h

/-- What a method writes is above all that is told. -/
theorem Tr.below {β : Loc} {H : Heap} {w w' : World} {B : Nat} (hR : Rel β H w) (hb : Below B w w') (hlt : ∀ (i : Nat) (C : Blk) (A : Place), H[i]? = some (some C) → β i = some A → (C.wr = true ∨ C.row.cells ≠ []) → A.addr.block < B) : Rel β H w' := by
  refine ⟨⟨fun κ C A e1 e2 => (hR.blk κ C A e1 e2).keep (Loc.le_refl _) fun hn => hb.block _ (hlt κ C A e1 e2 hn), hR.sep, hR.spot⟩, hR.dom, hR.glob⟩

/-- A region with a call of such a method in it. -/
theorem EndsB.call (hΘ : Θ.Ok P) {id : Nat} {ops : Array Oper} {pre post : List Oper} {o : Oper} {k : List Item} {T T1 T2 : Slots} {H : Heap} {hs1 hs2 : List Hint} {C1 C2 : Prop} {c : Call} {f : FuncId} {xs : List Value} {v1 : Value} {u' : Option ByteArray}
    (hops : ops.toList = pre ++ o :: post) (h1 : evSeq P Θ ops.toList pre T H hs1 = some ⟨T1, H, C1, []⟩) (hC1 : C1) (hg : o.guard = none) (ho : o.op = .call c) (hc : c.callee = .value (.func f)) (hargs : opds T1 c.args.toList = some (.pointer (some ⟨κ, 0, none⟩) :: xs))
    (hfl : FlatL xs) (hv : Flat v1) (hB : BOk P Tb Te f xs u v1 u') (h2 : evSeq P Θ ops.toList post (setSlot T1 o.dst v1) H hs2 = some ⟨T2, H, C2, []⟩) (hC2 : C2) (hlo : low m H = true ∧ m ≤ H.length)
    (hE : match u' with | some x => EndsB P fn Tb Te H0 κ m x k T2 H v Hf | none => Ends P fn H0 k T2 H v Hf) : EndsB P fn Tb Te H0 κ m u (.code (.region id ops false) :: k) T H v Hf := by
  intro β0 w0 β a w h0 htr ht hd hb0
  have step : ∀ {u : ByteArray} {β β' : Loc} {w w' : World}, Bld Tb Te κ m u w0.heap.size β H w → Tr β H w β' H w' → Bld Tb Te κ m u w0.heap.size β' H w' := by
    intro u β β' w w' ⟨B, b, c, b1, b2, b3, b4, b5⟩ tr'
    refine ⟨B, b, c, b1, Nat.le_trans b2 tr'.size, tr'.le _ _ b3, isBuilder_same b4 fun k g1 g2 => ?_, fun i C A hi e1 e2 e3 => b5 i C A hi e1 (tr'.fix i A (by omega) e2) e3⟩
    refine tr'.frame k g2 fun κ1 B1 A1 e1 e2 e3 e => ?_
    have := b5 κ1 B1 A1 (low_ok hlo.1 _ _ e1) e1 e3 (.inl e2)
    omega
  refine Runs.code (wp_region ?_)
  have hsz : ops.size = pre.length + (1 + post.length) := by
    have := congrArg List.length hops
    simp at this; omega
  have hget : ∀ j : Nat, ops[j]? = (pre ++ o :: post)[j]? := fun j => by rw [← hops]; simp
  have hr : List.range ops.size = List.range' 0 pre.length ++ (pre.length :: List.range' (pre.length + 1) post.length) := by
    rw [hsz, List.range_eq_range', ← List.range'_append_1, Nat.zero_add, Nat.add_comm 1, List.range'_succ]
  rw [hr]
  refine evSeq_okK hΘ _ pre 0 T H hs1 _ β a w (fun j hj => by rw [hget, Nat.zero_add, List.getElem?_append_left hj]) h1 hC1 ht htr.rel fun β1 a1 w1 t1 d1 tr1 => ?_
  have ho0 : ops[pre.length]? = some o := by rw [hget]; simp
  simp only [wpOps, ho0]
  rw [if_pos (by simp [Region.wanted, hg])]
  refine .inl ?_
  obtain ⟨fn', f1, f2, f3⟩ := hB.fn
  unfold Oper.wp
  rw [run_enter f1 f2 f3 ho hc, Oper.upon_enter]
  have ha := opds_ok t1 hargs
  obtain ⟨B, b, cp, b1, b2, b3, b4, b5⟩ := step hb0 tr1
  have hlt : ∀ (i : Nat) (C : Blk) (A : Place), H[i]? = some (some C) → β1 i = some A → (C.wr = true ∨ C.row.cells ≠ []) → A.addr.block < B := fun i C A e1 e2 e3 => b5 i C A (low_ok hlo.1 _ _ e1) e1 e2 e3
  have hargs2 : c.args.toList.map a1.eval = .pointer (some ⟨b, 0, none⟩) :: xs := by
    cases hx : c.args.toList.map a1.eval with
    | nil => rw [hx] at ha; cases ha
    | cons y ys =>
      rw [hx] at ha
      cases ha with
      | cons q1 q2 =>
        obtain ⟨A, e1, e2, rfl⟩ := V_ptr.1 q1
        have e1' : β1 κ = some A := e1
        rw [b3] at e1'; cases e1'
        rw [hfl.eq q2]
        rfl
  rw [hargs2]
  refine (hB.goes B b w1 b4 b2).mono ?_
  rintro e w2 ⟨rfl, hbel, hnew⟩
  have hrel2 := Tr.below tr1.rel hbel hlt
  have htr2 : Tr β0 H0 w0 β1 H w2 := by
    have ht1 := htr.trans tr1
    refine ⟨ht1.le, ht1.len, ht1.fix, hrel2, hbel.os.trans ht1.os, hbel.tape.trans ht1.tape, hbel.output.trans ht1.output, Nat.le_trans ht1.size hbel.size, fun b' hb' hne => (hbel.block b' (Nat.lt_of_lt_of_le hb' b1)).trans (ht1.frame b' hb' hne), ht1.muts⟩
  have t2 : TR β1 (setSlot T1 o.dst v1) (a1.put o.dst v1) := t1.put o.dst ((V_flat hv).2 rfl)
  have happ : List.range' (pre.length + 1) post.length = List.range' (pre.length + 1) post.length ++ [] := by simp
  rw [happ]
  refine evSeq_okK hΘ [] post (pre.length + 1) _ H hs2 _ β1 _ w2 (fun j hj => by
    rw [hget, show pre.length + 1 + j = pre.length + (j + 1) by omega, List.getElem?_append_right (by omega), show pre.length + (j + 1) - pre.length = j + 1 by omega]; simp) h2 hC2 t2 hrel2 fun β3 a3 w3 t3 d3 tr3 => ?_
  simp only [wpOps]
  have hd3 : a3.defers = [] := d3.trans ((put_defers a1 o.dst v1).trans (d1.trans hd))
  refine ⟨trivial, ?_⟩
  cases u' with
  | none => exact hE β0 w0 β3 a3 w3 h0 (htr2.trans tr3) t3 hd3
  | some x => exact hE β0 w0 β3 a3 w3 h0 (htr2.trans tr3) t3 hd3 (step ⟨B, b, cp, b1, Nat.le_trans b2 hbel.size, b3, hnew x rfl, b5⟩ tr3)

/-! #### The same, of a piece of code that is given by its place -/
def bcall (o : Oper) (T : Slots) : Option (FuncId × List Value) :=
  match o.op with
  | .call c => match c.callee with
    | .value (.func f) => match opds T c.args.toList with
      | some vs => some (f, vs)
      | none => none
    | _ => none
  | _ => none
theorem bcall_ok {o : Oper} {T : Slots} {f : FuncId} {vs : List Value} (h : bcall o T = some (f, vs)) : ∃ c, o.op = .call c ∧ c.callee = .value (.func f) ∧ opds T c.args.toList = some vs := by
  unfold bcall at h
  split at h
  · rename_i c ho
    split at h
    · rename_i f' hc
      split at h
      · rename_i vs' hv
        simp at h
        obtain ⟨rfl, rfl⟩ := h
        exact ⟨c, ho, hc, hv⟩
      · simp at h
    · simp at h
  · simp at h

def preB (P : Program) (Θ : Types) (cc : Code) (i : Nat) (T : Slots) (H : Heap) (hs : List Hint) : Option (Slots × Heap × Prop × FuncId × List Value) :=
  match cc with
  | .region _ ops false => match ops.toList[i]? with
    | some o => match o.guard with
      | none => match evSeq P Θ ops.toList (ops.toList.take i) T H hs with
        | some ⟨T1, H1, C, []⟩ => match bcall o T1 with
          | some (f, vs) => some (T1, H1, C, f, vs)
          | none => none
        | _ => none
      | _ => none
    | none => none
  | _ => none
def postB (P : Program) (Θ : Types) (cc : Code) (i : Nat) (T1 : Slots) (v1 : Value) (H : Heap) (hs : List Hint) : Option (Slots × Heap × Prop) :=
  match cc with
  | .region _ ops false => match ops.toList[i]? with
    | some o => match evSeq P Θ ops.toList (ops.toList.drop (i + 1)) (setSlot T1 o.dst v1) H hs with
      | some ⟨T2, H2, C, []⟩ => some (T2, H2, C)
      | _ => none
    | none => none
  | _ => none

theorem EndsB.callB (hΘ : Θ.Ok P) (i : Nat) {cc : Code} {k : List Item} {T T1 T2 : Slots} {H : Heap} {hs1 hs2 : List Hint} {C1 C2 : Prop} {f : FuncId} {xs : List Value} {v1 : Value} (u' : Option ByteArray)
    (h1 : preB P Θ cc i T H hs1 = some (T1, H, C1, f, .pointer (some ⟨κ, 0, none⟩) :: xs)) (hC1 : C1)
    (hfl : FlatL xs) (hv : Flat v1) (hB : BOk P Tb Te f xs u v1 u') (h2 : postB P Θ cc i T1 v1 H hs2 = some (T2, H, C2)) (hC2 : C2) (hlo : low m H = true ∧ m ≤ H.length)
    (hE : match u' with | some x => EndsB P fn Tb Te H0 κ m x k T2 H v Hf | none => Ends P fn H0 k T2 H v Hf) : EndsB P fn Tb Te H0 κ m u (.code cc :: k) T H v Hf := by
  unfold preB at h1
  split at h1
  · rename_i id ops
    split at h1
    · rename_i o ho
      split at h1
      · rename_i hg
        split at h1
        · rename_i T1' H1 C hseq
          split at h1
          · rename_i f' vs hb
            simp only [Option.some.injEq, Prod.mk.injEq] at h1
            obtain ⟨rfl, rfl, rfl, rfl, rfl⟩ := h1
            obtain ⟨c, e1, e2, e3⟩ := bcall_ok hb
            unfold postB at h2
            simp only [ho] at h2
            split at h2
            · rename_i T2' H2 C' hseq2
              simp only [Option.some.injEq, Prod.mk.injEq] at h2
              obtain ⟨rfl, rfl, rfl⟩ := h2
              have hlt := (List.getElem?_eq_some_iff.1 ho)
              refine EndsB.call hΘ (pre := ops.toList.take i) (post := ops.toList.drop (i + 1)) (o := o) ?_ hseq hC1 hg e1 e2 e3 hfl hv hB hseq2 hC2 hlo hE
              obtain ⟨h3, h4⟩ := hlt
              rw [← h4, List.getElem_cons_drop, List.take_append_drop]
            · simp at h2
          · simp at h1
        · simp at h1
      · simp at h1
    · simp at h1
  · simp at h1

def alloB (cc : Code) : Option (TypeId × Option Tmp) :=
  match cc with
  | .region _ ops false => match ops.toList with
    | [o] => match o.guard, o.op with
      | none, .alloc t => some (t, o.dst)
      | _, _ => none
    | _ => none
  | _ => none
theorem Ends.builderB {cc : Code} {d : Option Tmp} {k : List Item} {T T2 : Slots} {H : Heap} (h : alloB cc = some (Tb, d)) (hz : ∀ w, (zeroValue Tb).run P w = .ok (.agg #[.pointer none, .slice none 0 0]) w) (hT : setSlot T d (.pointer (some ⟨H.length, 0, none⟩)) = T2)
    (hE : EndsB P fn Tb Te H0 H.length H.length ByteArray.empty k T2 (H ++ [none]) v Hf) : Ends P fn H0 (.code cc :: k) T H v Hf := by
  unfold alloB at h
  split at h
  · rename_i id ops
    split at h
    · rename_i o ho
      split at h
      · rename_i t e1 e2
        simp only [Option.some.injEq, Prod.mk.injEq] at h
        obtain ⟨rfl, rfl⟩ := h
        refine Ends.builder (Te := Te) (o := o) (by cases ops; simpa using ho) e2 e1 hz ?_
        rw [hT]; exact hE
      · simp at h
    · simp at h
  · simp at h
end
end Go.Proofs.Ytdopibfclonfjaa.Abs
