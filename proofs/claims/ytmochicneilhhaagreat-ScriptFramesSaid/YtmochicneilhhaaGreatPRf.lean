/- A range over a function, in the walk's own judgements: code in a round or not, deferred marks, a round's contract. -/
import Derived.Test.YtmochicneilhhaaGreatPCk
import Derived.Test.YtmochicneilhhaaGreatPEt
import Derived.RangeFuncRecord
import Derived.OrdersIn
namespace Go.Proofs.YtmochicneilhhaaGreat
open Go.RowKit

/-- the fence that lets all in; in a round or not -/
def wideR (ρ : Option Nat) : Fence := { Fence.wide with round := ρ }
def noDefer (l : List Oper) : Bool := l.all fun o => match o.op with
  | .defer .. => false
  | _ => true
theorem noDefer_op {o : Oper} (h : (match o.op with | .defer .. => false | _ => true) = true) (c : Call) : o.op ≠ .defer c := by
  intro he
  rw [he] at h
  cases h
theorem callsIn_wideR {ρ : Option Nat} {m : Nat} {P : Program} {f : FuncId} {args : Array Value} {w : World} {R : Ending → World → Prop} : CallsIn (wideR ρ) m P f args w R ↔ Calls P f args w R := (show CallsIn (wideR ρ) m P f args w R ↔ CallsIn Fence.wide m P f args w R from Iff.rfl).trans callsIn_wide
theorem rowsIn_wideR {ρ : Option Nat} {m : Nat} {P : Program} {row : String} {args : Array Value} {w : World} {R : Value → World → Prop} (h : Rows P row args w R) : RowsIn (wideR ρ) m P row args w R :=
  fun c cs _ => let ⟨v, w', r, s⟩ := h c cs; ⟨v, w', r, stepsIn_wide.2 s⟩
section
variable {P : Program} {n m : Nat} {M : Me} {ρ : Option Nat} {ds : List Deferred} {ops : Array Oper} {Q : Exit → Act → World → Prop}
/-- what holds of the activation but for the marks -/
def lift (ds : List Deferred) (Q : Exit → Act → World → Prop) : Exit → Act → World → Prop := fun e a w => ∃ a0 : Act, a = { a0 with defers := a0.defers ++ ds } ∧ Q e a0 w
theorem put_defers (a : Act) (d : List Deferred) (dst : Option Tmp) (v : Value) : ({ a with defers := d } : Act).put dst v = { a.put dst v with defers := d } := by cases dst <;> rfl
theorem defers_put (a : Act) (dst : Option Tmp) (v : Value) : (a.put dst v).defers = a.defers := by cases dst <;> rfl
theorem op_tr {o : Oper} {a : Act} {w : World} {K K' : Act → World → Prop} {Q' : Exit → Act → World → Prop} (hnd : ∀ c, o.op ≠ .defer c) (hQ : NoDeath Q) (hk : ∀ a' w', K a' w' → K' { a' with defers := a'.defers ++ ds } w') (h : o.wp P a w K Q) :
    o.wpIn (wideR ρ) m P { a with defers := a.defers ++ ds } w K' Q' := by
  refine ⟨fun _ _ => trivial, ?_⟩
  rw [Oper.semAt_eq _ _ _ hnd]
  unfold Oper.wp at h
  show o.uponIn (wideR ρ) m P { a with defers := a.defers ++ ds } K' Q' ((execOp a.eval o).run P w)
  have hput : ∀ v w', K (a.put o.dst v) w' → K' (({ a with defers := a.defers ++ ds } : Act).put o.dst v) w' := fun v w' hh => by
    rw [put_defers]
    have := hk _ _ hh
    rwa [defers_put] at this
  have hlets : ¬ LetsOut Q := fun ⟨a, w, hq⟩ => hQ.2 a w hq
  cases hr : (execOp a.eval o).run P w with
  | ok nx w' =>
    rw [hr] at h
    cases nx with
    | value v => exact hput v w' h
    | skip => exact hput undef w' h
    | defer d =>
      have := hk _ _ h
      rw [defers_put] at this
      show K' (({ a with defers := d :: (a.defers ++ ds) } : Act).put o.dst undef) w'
      rw [put_defers] at this ⊢
      exact this
    | enter f args =>
      refine ⟨fun hd => absurd hd (by simp [wideR, Fence.wide]), callsIn_wideR.2 (Calls.mono h ?_)⟩
      intro e w'' hh
      cases e with
      | returned v => exact hput v w'' hh
      | panicked chain => exact absurd hh (hQ.1 _ _ _)
      | outgrown => exact absurd hh hlets
    | row row args =>
      refine ⟨fun hd => absurd hd (by simp [wideR, Fence.wide]), rowsIn_wideR (fun c cs => ?_)⟩
      obtain ⟨v, w'', hh, s⟩ := h c cs
      exact ⟨v, w'', hput v w'' hh, s⟩
    | _ => exact absurd h (by simp [Oper.upon])
  | halt e w' =>
    rw [hr] at h
    cases e with
    | panic v => exact absurd h (hQ.1 _ _ _)
    | _ => exact absurd h (by simp [Oper.upon])
theorem list_tr (hQ : NoDeath Q) : ∀ (l : List Oper) (a : Act) (w : World), noDefer l = true → wpList P ops Q l a w → wpListIn (wideR ρ) m P ops (lift ds Q) l { a with defers := a.defers ++ ds } w
  | [], a, w, _, h => ⟨a, rfl, h⟩
  | o :: rest, a, w, hnd, h => by
    simp only [noDefer, List.all_cons, Bool.and_eq_true] at hnd
    have ih := fun a w => list_tr hQ rest a w hnd.2
    unfold wpList at h
    unfold wpListIn
    have hy : yielded ops ({ a with defers := a.defers ++ ds } : Act).tmps = yielded ops a.tmps := rfl
    rw [hy]
    split at h
    · rename_i hw
      rw [if_pos hw]
      rcases h with h | ⟨_, a', w', hq⟩
      · exact op_tr (noDefer_op hnd.1) hQ (fun a' w' hk => ih a' w' hk) h
      · exact absurd hq (hQ.2 _ _)
    · rename_i hw
      rw [if_neg hw]
      refine ⟨fun _ _ => trivial, ?_⟩
      rw [put_defers]
      have := ih _ _ h
      rwa [defers_put] at this
theorem ops_tr (hQ : NoDeath Q) (hnd : noDefer ops.toList = true) : ∀ (l : List Nat) (a : Act) (w : World), wpOps P ops Q l a w → wpOpsIn (wideR ρ) m P ops (lift ds Q) l { a with defers := a.defers ++ ds } w
  | [], a, w, h => ⟨a, rfl, h⟩
  | i :: rest, a, w, h => by
    have ih := fun a w => ops_tr hQ hnd rest a w
    unfold wpOps at h
    unfold wpOpsIn
    have hy : yielded ops ({ a with defers := a.defers ++ ds } : Act).tmps = yielded ops a.tmps := rfl
    rw [hy]
    cases ho : ops[i]? with
    | none => rw [ho] at h; exact ih a w h
    | some o =>
      rw [ho] at h
      dsimp only at h ⊢
      split at h
      · rename_i hw
        rw [if_pos hw]
        have hno : (match o.op with | .defer .. => false | _ => true) = true := by
          refine List.all_eq_true.1 hnd o ?_
          have := Array.mem_of_getElem? ho
          simpa using this
        rcases h with h | ⟨_, a', w', hq⟩
        · exact op_tr (noDefer_op hno) hQ (fun a' w' hk => ih a' w' hk) h
        · exact absurd hq (hQ.2 _ _)
      · rename_i hw
        rw [if_neg hw]
        refine ⟨fun _ _ => trivial, ?_⟩
        rw [put_defers]
        have := ih _ _ h
        rwa [defers_put] at this
/-- a drawn region, in whatever order, by the order of the text -/
theorem ser_ops {l : List Oper} {a : Act} {w : World} (E : List Nat) (S : World → Prop) (hm : P.follows .mixedOrders = true) (hser : serialB l.toArray E = true) (hQ : NoDeath Q)
    (hS : S w.drew) (h : wpSer P l.toArray Q S E 0 l a w.drew) (t : Nat) : wpOps P l.toArray Q (Region.schedule (P.follows .mixedOrders) l.toArray t) a w.drew := by
  simp only [Region.schedule, hm, Bool.true_or, if_true]
  refine wpAny_sound l.toArray.size t _ a _ (wpAny_of_held (S := S) _ _ _ _ (wpAnyH_of_idx (E := E) hser hQ l.toArray.size (List.range' 0 l.length) _ (by simp) (by rw [← List.range_eq_range']; exact List.pairwise_lt_range) ?_ (by simp) ?_ a w.drew hS (wpSer_idx l 0 (by simp) a w.drew hS h)))
  · intro j
    simp only [List.mem_range'_1, Array.getD_eq_getD_getElem?, Array.getElem?_replicate, List.size_toArray]
    split
    · simp; omega
    · simp; omega
  · intro k hk
    simp only [Array.getD_eq_getD_getElem?, Array.getElem?_replicate] at hk
    split at hk <;> simp at hk
end
/-- posts that look at the marks -/
abbrev PostD := List Deferred → Post
def QR (n : Nat) (M : Me) (Q : PostD) : Exit → Act → World → Prop := fun e a w => ∃ (a0 : Act) (ds : List Deferred), a = { a0 with defers := ds } ∧ QQ n M (Q ds) e a0 w
/-- code in a round (or not), with marks -/
def CR (ρ : Option Nat) (ds : List Deferred) (P : Program) (n : Nat) (M : Me) (c : Code) (Q : PostD) (t : Fr) (L : List Ck) : Prop := ∀ a w, Frm n t a → Mem M L w → c.wpIn (wideR ρ) 0 P (QR n M Q) { a with defers := ds } w
def LR (ρ : Option Nat) (ds : List Deferred) (P : Program) (n : Nat) (M : Me) (ops : Array Oper) (l : List Oper) (Q : PostD) (t : Fr) (L : List Ck) : Prop := ∀ a w, Frm n t a → Mem M L w → wpListIn (wideR ρ) 0 P ops (QR n M Q) l { a with defers := ds } w
def thenR (K : List Deferred → Fr → List Ck → Prop) (Q : PostD) : PostD := fun ds => thenQ (K ds) (Q ds)
def blockR (id : Nat) (Q : PostD) : PostD := fun ds => blockQ id (Q ds)
section
variable {P : Program} {n : Nat} {M : Me} {ρ : Option Nat} {ds : List Deferred} {Q : PostD} {t : Fr} {L : List Ck} {ops : Array Oper}
theorem tr_n {K : List Deferred → Fr → List Ck → Prop} (h : K ds t L) : thenR K Q ds .normal t L := h
theorem tr_r {K : List Deferred → Fr → List Ck → Prop} (h : Q ds .ret t L) : thenR K Q ds .ret t L := h
theorem tr_e {K : List Deferred → Fr → List Ck → Prop} {id : Nat} (h : Q ds (.exit id) t L) : thenR K Q ds (.exit id) t L := h
theorem br_n {id : Nat} (h : Q ds .normal t L) : blockR id Q ds .normal t L := h
theorem br_r {id : Nat} (h : Q ds .ret t L) : blockR id Q ds .ret t L := h
theorem br_e {id id' : Nat} (hb : Nat.beq id' id = true) (h : Q ds .normal t L) : blockR id Q ds (.exit id') t L := bk_e hb h
theorem br_x {id id' : Nat} (hb : Nat.beq id' id = false) (h : Q ds (.exit id') t L) : blockR id Q ds (.exit id') t L := bk_x hb h
theorem QR.of_lift {ds : List Deferred} {e : Exit} {a : Act} {w : World} (h : lift ds (QQ n M (Q ds)) e a w) : QR n M Q e a w := by
  obtain ⟨a0, rfl, hq⟩ := h
  refine ⟨a0, ds, ?_, hq⟩
  have : a0.defers = [] := by
    cases e <;> first
      | exact hq.elim
      | exact (let ⟨_, _, hf, _⟩ := hq; hf.defers)
  rw [this]
  rfl
theorem frm_defers {a : Act} (h : Frm n t a) (ds : List Deferred) : ({ a with defers := a.defers ++ ds } : Act) = { a with defers := ds } := by rw [h.defers]; rfl
theorem cr_skip (h : Q ds .normal t L) : CR ρ ds P n M .skip Q t L := fun a _ hf hm => wpIn_skip ⟨a, ds, rfl, t, L, hf, hm, h⟩
theorem cr_ret (h : Q ds .ret t L) : CR ρ ds P n M .ret Q t L := fun a _ hf hm => wpIn_ret ⟨a, ds, rfl, t, L, hf, hm, h⟩
theorem cr_exit {id : Nat} (h : Q ds (.exit id) t L) : CR ρ ds P n M (.exit id) Q t L := fun a _ hf hm => wpIn_exit ⟨a, ds, rfl, t, L, hf, hm, h⟩
theorem cr_mono {c : Code} {Q' : PostD} (hq : ∀ ds e t L, Q ds e t L → Q' ds e t L) (h : CR ρ ds P n M c Q t L) : CR ρ ds P n M c Q' t L := fun a w hf hm => wpIn_mono (h a w hf hm) fun e _ w' ⟨a0, ds', ha, hh⟩ => ⟨a0, ds', ha, QQ.mono (hq ds') e a0 w' hh⟩
theorem cr_seq {x y : Code} (h : CR ρ ds P n M x (thenR (fun ds t L => CR ρ ds P n M y Q t L) Q) t L) : CR ρ ds P n M (.seq x y) Q t L := fun a w hf hm => by
  refine wpIn_seq (wpIn_mono (h a w hf hm) fun e a' w' hq => ?_)
  obtain ⟨a0, ds', rfl, hq⟩ := hq
  cases e <;> first
    | exact hq.elim
    | exact ⟨a0, ds', rfl, hq⟩
    | exact (let ⟨t, L, hf, hm, hq⟩ := hq; hq a0 w' hf hm)
theorem cr_block {id : Nat} {c : Code} (h : CR ρ ds P n M c (blockR id Q) t L) : CR ρ ds P n M (.block id c) Q t L := fun a w hf hm => by
  refine wpIn_block (wpIn_mono (h a w hf hm) fun e a' w' hq => ?_)
  obtain ⟨a0, ds', rfl, hq⟩ := hq
  cases e <;> first
    | exact hq.elim
    | exact ⟨a0, ds', rfl, hq⟩
    | skip
  rename_i id'
  obtain ⟨t, L, hf, hm, hq⟩ := hq
  unfold blockR blockQ at hq
  show if id' = id then _ else _
  by_cases he : id' = id
  · rw [if_pos he]
    have : Nat.beq id' id = true := by rw [he]; exact Nat.beq_refl id
    simp only [this] at hq
    exact ⟨a0, ds', rfl, t, L, hf, hm, hq⟩
  · rw [if_neg he]
    have : Nat.beq id' id = false := by
      cases hb : Nat.beq id' id
      · rfl
      · exact absurd (Nat.eq_of_beq_eq_true hb) he
    simp only [this] at hq
    exact ⟨a0, ds', rfl, t, L, hf, hm, hq⟩
theorem cr_cond {x : Operand} {b : Bool} {c d : Code} (hx : ov t x = some (none, .bool b)) (h1 : b = true → CR ρ ds P n M c Q t L) (h2 : b = false → CR ρ ds P n M d Q t L) : CR ρ ds P n M (.cond x c d) Q t L := fun a w hf hm => by
  refine wpIn_cond (t := b) (hf.ov hx rfl) ?_
  cases b
  · exact h2 rfl a w hf hm
  · exact h1 rfl a w hf hm
theorem cr_weak {c : Code} {t' : Fr} {L' : List Ck} (hf' : ∀ a, Frm n t a → Frm n t' a) (hg : Gives L L') (h : CR ρ ds P n M c Q t' L') : CR ρ ds P n M c Q t L := fun a w hf hm => h a w (hf' a hf) (hg M w hm)
theorem cr_weakL {c : Code} {L' : List Ck} (hg : Gives L L') (h : CR ρ ds P n M c Q t L') : CR ρ ds P n M c Q t L := fun a w hf hm => h a w hf (hg M w hm)
theorem cr_region {id : Nat} {l : List Oper} (hnd : noDefer l = true) (h : LX P n M l.toArray .seq 0 l (Q ds) t L) : CR ρ ds P n M (.region id l.toArray false) Q t L := fun a w hf hm => by
  have := list_tr (ρ := ρ) (m := 0) (ds := ds) (QQ.noDeath (Q ds)) l a w hnd (h trivial a w hf hm)
  rw [frm_defers hf] at this
  exact wpIn_mono (wpIn_region_lit this) fun e a' w' => QR.of_lift
theorem cr_draw {id : Nat} {l : List Oper} (E : List Nat) (L0 : List Ck) (hnd : noDefer l = true) (hm' : P.follows .mixedOrders = true) (hser : serialB l.toArray E = true) (hg : Gives L L0) (h : LX P n M l.toArray (.any E L0) 0 l (Q ds) t L) : CR ρ ds P n M (.region id l.toArray true) Q t L := fun a w hf hm => by
  refine wpIn_mono (Q := lift ds (QQ n M (Q ds))) (wpIn_region_draw fun tk => ?_) fun e a' w' => QR.of_lift
  have := ops_tr (ρ := ρ) (m := 0) (ds := ds) (QQ.noDeath (Q ds)) (by simpa using hnd) _ a _ (ser_ops E (Mem M L0) hm' hser (QQ.noDeath (Q ds)) (hg M _ hm.drew) (h hg a _ hf hm.drew) tk)
  rw [frm_defers hf] at this
  exact this
theorem cr_list {id : Nat} {l : List Oper} (h : LR ρ ds P n M l.toArray l Q t L) : CR ρ ds P n M (.region id l.toArray false) Q t L := fun a w hf hm => wpIn_region_lit (h a w hf hm)
theorem cr_loop {c : Code} {α : Type} (S : α → Fr) (m : α → List Ck) (μ : α → Nat) (x : α) (hs : Sub (S x) t) (hg : Gives L (m x))
    (h : ∀ x, CR ρ ds P n M c (thenR (fun ds' t' L' => ds' = ds ∧ ∃ y, Sub (S y) t' ∧ Gives L' (m y) ∧ μ y < μ x) Q) (S x) (m x)) : CR ρ ds P n M (.loop c) Q t L := fun a w hf hm => by
  have key : ∀ x a w, Frm n (S x) a → Mem M (m x) w → (Code.loop c).wpIn (wideR ρ) 0 P (QR n M Q) { a with defers := ds } w := by
    intro x a w hf hm
    refine wpIn_loop (fun a' w => ∃ a, a' = { a with defers := ds } ∧ ∃ x, Frm n (S x) a ∧ Mem M (m x) w) (fun a' w => leastOf (fun k => ∃ a, a' = { a with defers := ds } ∧ ∃ x, Frm n (S x) a ∧ Mem M (m x) w ∧ μ x = k)) ⟨a, rfl, x, hf, hm⟩ ?_
    rintro a' w ⟨a1, rfl, x0, hf0, hm0⟩
    obtain ⟨⟨a2, h2, x, hf, hm, hx⟩, _⟩ := leastOf_spec (p := fun k => ∃ a, ({ a1 with defers := ds } : Act) = { a with defers := ds } ∧ ∃ x, Frm n (S x) a ∧ Mem M (m x) w ∧ μ x = k) ⟨μ x0, a1, rfl, x0, hf0, hm0, rfl⟩
    rw [h2]
    refine wpIn_mono (h x a2 w hf hm) fun e a' w' hq => ?_
    obtain ⟨a3, ds', rfl, hq⟩ := hq
    cases e <;> first
      | exact hq.elim
      | exact ⟨a3, ds', rfl, hq⟩
      | skip
    obtain ⟨t', L', hf', hm', rfl, y, hs', hg', hlt⟩ := hq
    refine ⟨⟨a3, rfl, y, hs'.frm hf', hg' M w' hm'⟩, ?_⟩
    have hmin := (leastOf_spec (p := fun k => ∃ a, ({ a3 with defers := ds' } : Act) = { a with defers := ds' } ∧ ∃ x, Frm n (S x) a ∧ Mem M (m x) w' ∧ μ x = k) ⟨μ y, a3, rfl, y, hs'.frm hf', hg' M w' hm', rfl⟩).2 _ ⟨a3, rfl, y, hs'.frm hf', hg' M w' hm', rfl⟩
    rw [h2] at hx
    exact Nat.lt_of_le_of_lt hmin (hx ▸ hlt)
  exact key x a w (hs.frm hf) (hg M w hm)
/-- the first operations by the walk's list, the others after it -/
def cutQ (K : Fr → List Ck → Prop) : Post
  | .normal, t, L => K t L
  | _, _, _ => False
theorem cut_n {K : Fr → List Ck → Prop} (h : K t L) : cutQ K .normal t L := h
theorem listIn_append {F : Fence} {m : Nat} {Q : Exit → Act → World → Prop} : ∀ (l1 l2 : List Oper) (a : Act) (w : World), wpListIn F m P ops (Exit.then (wpListIn F m P ops Q l2) Q) l1 a w → wpListIn F m P ops Q (l1 ++ l2) a w
  | [], l2, a, w, h => h
  | o :: l1, l2, a, w, h => by
    have ih := fun a w => listIn_append (F := F) (m := m) (Q := Q) l1 l2 a w
    rw [List.cons_append]
    unfold wpListIn at h ⊢
    split at h
    · rename_i hw
      rw [if_pos hw]
      refine ⟨h.1, ?_⟩
      have h2 := h.2
      revert h2
      generalize (o.semAt F.round a.eval).run P w = r
      intro h2
      unfold Oper.uponIn at h2 ⊢
      split at h2
      · exact ih _ _ h2
      · exact ih _ _ h2
      · exact ih _ _ h2
      · refine ⟨h2.1, h2.2.mono fun e w' hh => ?_⟩
        cases e with
        | returned v => exact ih _ _ hh
        | panicked c => exact hh
        | outgrown => obtain ⟨a', w', hq⟩ := hh; exact ⟨a', w', hq⟩
      · exact ⟨h2.1, h2.2.mono fun v w' hh => ih _ _ hh⟩
      · refine ⟨h2.1, h2.2.mono fun e w' hh => ?_⟩
        cases e with
        | returned v => exact ih _ _ hh
        | panicked c => exact hh
        | outgrown => obtain ⟨a', w', hq⟩ := hh; exact ⟨a', w', hq⟩
      · exact h2
      · exact h2.elim
    · rename_i hw
      rw [if_neg hw]
      exact ⟨h.1, ih _ _ h.2⟩
theorem listIn_mono {F : Fence} {m : Nat} : ∀ (l : List Oper) (a : Act) (w : World) {Q1 Q2 : Exit → Act → World → Prop}, (∀ e a w, Q1 e a w → Q2 e a w) → wpListIn F m P ops Q1 l a w → wpListIn F m P ops Q2 l a w
  | [], a, w, Q1, Q2, hq, h => hq _ _ _ h
  | o :: l, a, w, Q1, Q2, hq, h => by
    have ih := fun a w => listIn_mono (F := F) (m := m) l a w hq
    unfold wpListIn at h ⊢
    split at h
    · rename_i hw
      rw [if_pos hw]
      refine ⟨h.1, ?_⟩
      have h2 := h.2
      revert h2
      generalize (o.semAt F.round a.eval).run P w = r
      intro h2
      unfold Oper.uponIn at h2 ⊢
      split at h2
      · exact ih _ _ h2
      · exact ih _ _ h2
      · exact ih _ _ h2
      · refine ⟨h2.1, h2.2.mono fun e w' hh => ?_⟩
        cases e with
        | returned v => exact ih _ _ hh
        | panicked c => exact hq _ _ _ hh
        | outgrown => obtain ⟨a', w', hq'⟩ := hh; exact ⟨a', w', hq _ _ _ hq'⟩
      · exact ⟨h2.1, h2.2.mono fun v w' hh => ih _ _ hh⟩
      · refine ⟨h2.1, h2.2.mono fun e w' hh => ?_⟩
        cases e with
        | returned v => exact ih _ _ hh
        | panicked c => exact hq _ _ _ hh
        | outgrown => obtain ⟨a', w', hq'⟩ := hh; exact ⟨a', w', hq _ _ _ hq'⟩
      · exact hq _ _ _ h2
      · exact h2.elim
    · rename_i hw
      rw [if_neg hw]
      exact ⟨h.1, ih _ _ h.2⟩
theorem lr_cut (k : Nat) {l : List Oper} (hnd : noDefer (l.take k) = true) (h : LX P n M ops .seq 0 (l.take k) (cutQ fun t L => LR ρ ds P n M ops (l.drop k) Q t L) t L) : LR ρ ds P n M ops l Q t L := fun a w hf hm => by
  rw [← List.take_append_drop k l]
  refine listIn_append _ _ _ _ ?_
  have h1 := list_tr (ρ := ρ) (m := 0) (ds := ds) (QQ.noDeath _) (l.take k) a w hnd (h trivial a w hf hm)
  rw [frm_defers hf] at h1
  refine listIn_mono _ _ _ ?_ h1
  intro e a' w' hq
  obtain ⟨a0, rfl, hq⟩ := hq
  cases e <;> first
    | exact hq.elim
    | skip
  · obtain ⟨t', L', hf', hm', hk⟩ := hq
    rw [frm_defers hf']
    exact hk a0 w' hf' hm'
  · obtain ⟨_, _, _, _, hk⟩ := hq; exact hk.elim
  · obtain ⟨_, _, _, _, hk⟩ := hq; exact hk.elim
theorem lr_lx {l : List Oper} (hnd : noDefer l = true) (h : LX P n M ops .seq 0 l (Q ds) t L) : LR ρ ds P n M ops l Q t L := fun a w hf hm => by
  have h1 := list_tr (ρ := ρ) (m := 0) (ds := ds) (QQ.noDeath (Q ds)) l a w hnd (h trivial a w hf hm)
  rw [frm_defers hf] at h1
  exact listIn_mono _ _ _ (fun e a' w' => QR.of_lift) h1
/-- one object of another kind, turned -/
theorem Mem.putObj {w : World} {b : Nat} {o o' : Obj} {Lr : List Ck} (h : Mem M (.obj b o :: Lr) w) : Mem M (.obj b o' :: Lr) (w.putObj b o') :=
  h.turn (k := 0) (c := .obj b o) (c' := .obj b o') rfl rfl (fun _ hb => .inl hb) rfl rfl rfl (by simp) (fun g _ hne => World.putObj_heap_other (fun e => hne e.symm)) (World.putObj_heap_same (Array.getElem?_eq_some_iff.1 (h.get (k := 0) rfl : w.heap[b]? = some o)).1)
theorem Mem.newObj {w : World} (h : Mem M L w) (o : Obj) : Mem M (.obj w.heap.size o :: L) (w.alloc o) := by
  have hold : ∀ b, b < w.heap.size → (w.alloc o).heap[b]? = w.heap[b]? := fun b hb => Below.heap_alloc w _ b hb
  refine ⟨⟨h.keep.os, h.keep.tape, h.keep.output, Nat.le_trans h.keep.size (by simp), fun k hk hd => (hold k (Nat.lt_of_lt_of_le hk h.keep.size)).trans (h.keep.block k hk hd)⟩, ?_, ?_, ?_⟩
  · intro c hc
    rcases List.mem_cons.1 hc with rfl | hc
    · exact World.alloc_heap_new w o
    · exact Ck.stay (by simp) (fun b hb => hold b (Ck.lt (h.all c hc) hb)) (h.all c hc)
  · intro c hc hm b hb
    rcases List.mem_cons.1 hc with rfl | hc
    · cases hb; exact .inr h.keep.size
    · exact h.out c hc hm b hb
  · refine List.Pairwise.cons (fun c hc _ b hb hb' => ?_) h.sep
    cases hb
    exact Nat.lt_irrefl _ (Ck.lt (h.all c hc) hb')
theorem Gives.uncons (c : Ck) (L : List Ck) : Gives (c :: L) L := fun _ _ hm => ⟨hm.keep, fun x hx => hm.all x (List.mem_cons_of_mem _ hx), fun x hx => hm.out x (List.mem_cons_of_mem _ hx), (List.pairwise_cons.1 hm.sep).2⟩
theorem Gives.sub {L L' : List Ck} (h : L'.Sublist L) : Gives L L' := fun _ _ hm => ⟨hm.keep, fun x hx => hm.all x (h.subset hx), fun x hx => hm.out x (h.subset hx), hm.sep.sublist h⟩
theorem Gives.perm {L L' : List Ck} (h : L.Perm L') : Gives L L' := fun _ _ hm => ⟨hm.keep, fun x hx => hm.all x (h.mem_iff.2 hx), fun x hx => hm.out x (h.mem_iff.2 hx), (h.pairwise_iff (fun hab => Ck.Apart.symm hab)).1 hm.sep⟩
/-- some of the first ones, in whatever order; the others stay -/
theorem Gives.pre (L1 : List Ck) {L1' T : List Ck} (ks : List Nat) (hn : ks.Nodup) (hlt : ks.all (fun k => Nat.blt k L1.length) = true) (he : pickL L1 ks = L1') : Gives (L1 ++ T) (L1' ++ T) := fun M w hm => by
  have hks : ∀ k ∈ ks, k < L1.length := fun k hk => Nat.le_of_ble_eq_true (List.all_eq_true.1 hlt k hk)
  have hp := hm.pick (ks ++ List.range' L1.length T.length) (by
    rw [List.nodup_append]
    refine ⟨hn, List.nodup_range', fun a ha b hb hab => ?_⟩
    rw [List.mem_range'_1] at hb
    have := hks a ha
    omega)
  have e : pickL (L1 ++ T) (ks ++ List.range' L1.length T.length) = L1' ++ T := by
    unfold pickL at he ⊢
    rw [List.filterMap_append, ← he]
    congr 1
    · have h3 : ∀ ks : List Nat, (∀ k ∈ ks, k < L1.length) → ks.filterMap (fun x => (L1 ++ T)[x]?) = ks.filterMap (fun x => L1[x]?) := by
        intro ks
        induction ks with
        | nil => intro _; rfl
        | cons k ks ih =>
          intro h
          rw [List.filterMap_cons, List.filterMap_cons, List.getElem?_append_left (h k (List.mem_cons_self ..)), ih fun x hx => h x (List.mem_cons_of_mem _ hx)]
      exact h3 ks hks
    · apply List.ext_getElem?
      intro j
      have : (List.range' L1.length T.length).filterMap (fun x => (L1 ++ T)[x]?) = T := by
        have h2 : ∀ (m : Nat) (T : List Ck) (f : Nat → Option Ck), (∀ i, i < T.length → f (m + i) = T[i]?) → (List.range' m T.length).filterMap f = T := by
          intro m T
          induction T generalizing m with
          | nil => intro f _; rfl
          | cons x T ih =>
            intro f hf
            have h0 := hf 0 (by simp)
            rw [List.length_cons, List.range'_succ, List.filterMap_cons]
            simp only [Nat.add_zero] at h0
            rw [h0]
            simp only [List.getElem?_cons_zero]
            rw [ih (m + 1) f (fun i hi => by have := hf (i + 1) (by simp; omega); rw [show m + 1 + i = m + (i + 1) by omega, this]; simp)]
        exact h2 _ T _ fun i _ => by rw [List.getElem?_append_right (by omega)]; congr 1; omega
      rw [this]
  rwa [e] at hp
/-- a call, over chunks of which the last ones are told by a term -/
theorem k_callT {s : Way} {i : Nat} {rest : List Oper} {Q : Post} {d : Nat} {dst : Option Tmp} {ty : TypeId} {pos : String} {after : Array Edge} {guard : Option (Nat × Bool)} {p : Option Bool} {fx : Operand} {xs : Array Operand} {ts : Array TypeId} {f : FuncId} {first captured : Array Value} {vs args : List Value} {Lin : List Ck} {D : List Nat} {post : Value → List Ck → Prop}
    (h : Fn P f args Lin D post) (L0 T : List Ck) (hL : L = L0 ++ T) (ki k1 k2 : List Nat) {L1 L2 : List Ck} (hl : s.loud i = true) (hg : gOf ops t ⟨dst, .call ⟨.value fx, xs, ts⟩, ty, pos, after, guard⟩ = some p) (hp : cb p = true) (hd : dst = some d) (hn : Nat.blt d n = true) (hx : o1 t fx = some (.func (.func f) first captured)) (hxs : o1s t xs.toList = some vs) (hargs : first.toList ++ vs ++ captured.toList = args)
    (hk : ∀ v Lo, post v Lo → LX P n M ops s (i + 1) rest Q ((d, none, v) :: t) (Lo ++ (L2 ++ T)))
    (hi : pickL L ki = Lin := by exact rfl) (e1 : pickL L0 k1 = L1 := by first | (dsimp only [pickL, List.filterMap_cons, List.filterMap_nil, List.getElem?_cons_zero, List.getElem?_cons_succ, List.cons_append, List.nil_append, List.set_cons_zero, List.set_cons_succ]; done) | (dsimp only [pickL, List.filterMap_cons, List.filterMap_nil, List.getElem?_cons_zero, List.getElem?_cons_succ, List.cons_append, List.nil_append, List.set_cons_zero, List.set_cons_succ]; exact rfl) | exact rfl) (e2 : pickL L0 k2 = L2 := by first | (dsimp only [pickL, List.filterMap_cons, List.filterMap_nil, List.getElem?_cons_zero, List.getElem?_cons_succ, List.cons_append, List.nil_append, List.set_cons_zero, List.set_cons_succ]; done) | (dsimp only [pickL, List.filterMap_cons, List.filterMap_nil, List.getElem?_cons_zero, List.getElem?_cons_succ, List.cons_append, List.nil_append, List.set_cons_zero, List.set_cons_succ]; exact rfl) | exact rfl) (hni : ki.Nodup := by decide) (hnn : (k1 ++ k2).Nodup := by decide) (hlt : (k1 ++ k2).all (fun k => Nat.blt k L0.length) = true := by exact rfl)
    (hin : AllD D Lin := by first | (simp [AllD]; done) | exact ⟨fun _ hb => Option.mem_toList.2 hb, trivial⟩) (hD : ∀ b ∈ D, ∃ c ∈ L1, c.mut_ = true ∧ c.on b := by first | (simp [Ck.mut_, Ck.on]; done) | exact fun _ hb => ⟨Ck.own _ _ _ _ _ _, List.mem_cons_self .., rfl, Option.mem_toList.1 hb⟩) (hgs : ∀ Lo, s.gives L → s.gives (Lo ++ (L2 ++ T)) := by exact fun _ _ => trivial) :
    LX P n M ops s i (⟨dst, .call ⟨.value fx, xs, ts⟩, ty, pos, after, guard⟩ :: rest) Q t L :=
  lx_call h L1 (L2 ++ T) (by
    rw [hL, ← List.append_assoc]
    refine Gives.pre L0 (k1 ++ k2) hnn hlt ?_
    rw [← e1, ← e2]
    exact List.filterMap_append ..) (fun _ hm => hm.enter ki hni hi hin.spec) hD hgs hl hg hp hd hn hx hxs hargs hk
/-- what a round does: handed the chunks of Lin, it hands back true or false -/
def RD (P : Program) (l : Nat) (rec : Loop) (args : List Value) (Lin : List Ck) (D : List Nat) (post : Bool → List Ck → Prop) : Prop :=
  args.length = rec.params.size ∧ ∀ w, Mem ⟨w, D⟩ Lin w → RoundIn (wideR none) 0 P l rec.fn ((rec.params.zip args.toArray).foldl (fun tmps (t, a) => tmps.setIfInBounds t a) rec.tmps) rec.assign rec.body w
    fun e w' => ∃ b Lo, e = .returned (.bool b) ∧ post b Lo ∧ Mem ⟨w, D⟩ Lo w' ∧ Lo.all Ck.mut_ = true
theorem lr_yield {o : Oper} {d : Nat} {fx : Operand} {xs : Array Operand} {ts : Array TypeId} {ty : TypeId} {pos : String} {after : Array Edge} {guard : Option (Nat × Bool)} {l : Nat} {rec : Loop} {vs : List Value} {Lin : List Ck} {D : List Nat} {post : Bool → List Ck → Prop} {rest : List Oper}
    (h : RD P l rec vs Lin D post) (k : Nat) (L1 L2 : List Ck) (hobj : L[k]? = some (.obj l (.loop rec))) (hsplit : Gives L (L1 ++ L2)) (hin : ∀ w, Mem M L w → Mem ⟨w, D⟩ Lin w) (hD : ∀ b ∈ D, ∃ c ∈ L1, c.mut_ = true ∧ c.on b)
    (ho : o = ⟨some d, .call ⟨.value fx, xs, ts⟩, ty, pos, after, guard⟩) {p : Option Bool} (hg : gOf ops t o = some p) (hp : cb p = true) (hn : Nat.blt d n = true) (hx : o1 t fx = some (.func (.yield l) #[] #[])) (hxs : o1s t xs.toList = some vs)
    (hk : ∀ b Lo, post b Lo → LR ρ ds P n M ops rest Q ((d, none, .bool b) :: t) (Lo ++ L2)) : LR ρ ds P n M ops (o :: rest) Q t L := fun a w hf hm => by
  have hw := (gOf_ok (ops := ops) hf hg).trans hp
  unfold wpListIn
  rw [show yielded ops ({ a with defers := ds } : Act).tmps = yielded ops a.tmps from rfl, if_pos hw]
  subst ho
  refine ⟨fun _ _ => trivial, ?_⟩
  have hev : xs.map a.eval = vs.toArray := by
    apply Array.ext'
    have := o1s_eval hf hxs
    simpa using this
  have hl : w.heap[l]? = some (.loop rec) := hm.get hobj
  have hrun := run_yield (P := P) (args := vs.toArray) hl (by simpa using h.1)
  have hsem : (Oper.semAt (wideR ρ).round ({ a with defers := ds } : Act).eval ⟨some d, .call ⟨.value fx, xs, ts⟩, ty, pos, after, guard⟩).run P w = .ok (.round l rec.fn ((rec.params.zip vs.toArray).foldl (fun tmps (t, a) => tmps.setIfInBounds t a) rec.tmps) rec.assign rec.body) w := by
    rw [Oper.semAt_eq _ _ _ (by intro c hc; cases hc)]
    show (execOp a.eval _).run P w = _
    unfold execOp
    simp only [resolve, hf.o1 hx, Deferred.ofValue, Sem.run_bind, Sem.run_pure, Result.andThen_ok, invoke, hev]
    simpa using hrun
  show Oper.uponIn _ _ _ _ _ _ _ ((Oper.semAt (wideR ρ).round ({ a with defers := ds } : Act).eval ⟨some d, .call ⟨.value fx, xs, ts⟩, ty, pos, after, guard⟩).run P w)
  rw [hsem]
  refine ⟨fun hd => absurd hd (by simp [wideR, Fence.wide]), (show RoundIn (wideR ρ) 0 P l rec.fn _ rec.assign rec.body w _ from h.2 w (hin w hm)).mono ?_⟩
  rintro e w' ⟨b, Lo, rfl, hpo, hm', hmu⟩
  have h2 := Mem.call (hsplit M w hm) hD hm' hmu
  have h3 := hk b Lo hpo (a.put (some d) (.bool b)) w' (hf.put1 (Nat.le_of_ble_eq_true hn) _) h2
  exact h3
/-- what a round's body owes at its end -/
def rndQ (l : Nat) (rec : Loop) (post : Bool → List Ck → Prop) : PostD := fun _ e _ L =>
  ∃ Lr, Gives L (.obj l (.loop { rec with state := .busy }) :: Lr) ∧ match e with
    | .normal => ∃ Lo, Gives (.obj l (.loop { rec with state := .ready, pending := none }) :: Lr) Lo ∧ Lo.all Ck.mut_ = true ∧ post true Lo
    | .ret => ∃ Lo, Gives (.obj l (.loop { rec with state := .done, pending := some .ret }) :: Lr) Lo ∧ Lo.all Ck.mut_ = true ∧ post false Lo
    | .exit id => ∃ Lo, Gives (.obj l (.loop { rec with state := .done, pending := some (.exit id) }) :: Lr) Lo ∧ Lo.all Ck.mut_ = true ∧ post false Lo
def asgQ (P : Program) (n : Nat) (w0 : World) (D : List Nat) (l : Nat) (rec : Loop) (post : Bool → List Ck → Prop) : PostD := fun ds e t L => match e with
  | .normal => ∃ Lr, Gives L (.obj l (.loop rec) :: Lr) ∧ CR (some l) ds P n ⟨w0, D⟩ rec.body (rndQ l rec post) t (.obj l (.loop { rec with state := .busy }) :: Lr)
  | _ => False
theorem round_fn {l : Nat} {rec : Loop} {args : List Value} {Lin : List Ck} {D : List Nat} {post : Bool → List Ck → Prop} {tp : Fr} (hsz : args.length = rec.params.size) (hst : rec.state = .ready)
    (hfr : Frm n tp { tmps := (rec.params.zip args.toArray).foldl (fun tmps (t, a) => tmps.setIfInBounds t a) rec.tmps, defers := [] })
    (h : ∀ w0, CR (some l) [] P n ⟨w0, D⟩ rec.assign (asgQ P n w0 D l rec post) tp Lin) : RD P l rec args Lin D post := by
  refine ⟨hsz, fun w hm => ?_⟩
  refine roundIn_of_wpIn (F := wideR none) trivial ?_
  show rec.assign.wpIn (wideR (some l)) 0 P _ _ w
  refine wpIn_mono (h w _ w hfr hm) ?_
  rintro e a' w' ⟨a0, ds', rfl, hq⟩
  cases e <;> first
    | exact hq.elim
    | (obtain ⟨_, _, _, _, hk⟩ := hq; exact hk.elim)
    | skip
  obtain ⟨t1, L1, hf1, hm1, Lr, hg1, hb⟩ := hq
  have hm2 := hg1 _ _ hm1
  have hl : w'.heap[l]? = some (.loop rec) := hm2.get (k := 0) rfl
  refine ⟨_, run_beginRound hl hst, ?_⟩
  show rec.body.wpIn (wideR (some l)) 0 P _ _ _
  refine wpIn_mono (hb a0 _ hf1 hm2.putObj) ?_
  rintro e a' w'' ⟨a1, ds'', rfl, hq⟩
  cases e <;> first
    | exact hq.elim
    | skip
  all_goals
    obtain ⟨t2, L2, hf2, hm3, Lr2, hg2, Lo, hg3, hmu, hpo⟩ := hq
    have hm4 := hg2 _ _ hm3
    have hl2 : w''.heap[l]? = some (.loop { rec with state := .busy }) := hm4.get (k := 0) rfl
    refine ⟨_, _, run_endRound _ hl2, _, Lo, rfl, hpo, hg3 _ _ ?_, hmu⟩
    exact hm4.putObj
/-- THE STATEMENT, at an outermost one -/
theorem cr_range {g : Operand} {ps : Array Tmp} {assign body : Code} {gf : FuncId} {caps : Array Value} (hg : o1 t g = some (.func (.func gf) #[] caps))
    (h : ∀ (l d : Nat) (tmps : Array Value) (fn : FuncId), Frm n t { tmps := tmps, defers := [] } → ∃ (Lin L1 L2 : List Ck) (D : List Nat) (post : Value → List Ck → Prop),
      Fn P gf (.func (.yield l) #[] #[] :: caps.toList) Lin D post ∧
      (∀ w, Mem M (.obj l (.loop { state := .ready, pending := none, fn, tmps, params := ps, assign, body, defers := d }) :: .obj d (.deferred (some [])) :: L) w → Mem ⟨w, D⟩ Lin w) ∧
      Gives (.obj l (.loop { state := .ready, pending := none, fn, tmps, params := ps, assign, body, defers := d }) :: .obj d (.deferred (some [])) :: L) (L1 ++ L2) ∧ (∀ b ∈ D, ∃ c ∈ L1, c.mut_ = true ∧ c.on b) ∧
      ∀ v Lo, post v Lo → ∃ (rec : Loop) (Lr : List Ck), Gives (Lo ++ L2) (.obj l (.loop rec) :: Lr) ∧ rec.state ≠ .busy ∧ match rec.pending with
        | none => Q [⟨.collected d, #[]⟩] .normal t Lr
        | some .ret => Q [⟨.collected d, #[]⟩] .ret t Lr
        | some (.exit id) => Q [⟨.collected d, #[]⟩] (.exit id) t Lr
        | _ => False) : CR none [] P n M (.rangeFunc g ps assign body) Q t L := fun a w hf hm => by
  refine wpIn_rangeFunc fun fn _ => ?_
  have hf' : Frm n t { tmps := a.tmps, defers := [] } := ⟨rfl, hf.size, hf.slot⟩
  obtain ⟨Lin, L1, L2, D, post, hfn, hin, hsplit, hD, hk⟩ := h (w.heap.size + 1) w.heap.size a.tmps fn hf'
  have hm1 := (hm.newObj (.deferred (some []))).newObj (.loop { state := .ready, pending := none, fn, tmps := a.tmps, params := ps, assign, body, defers := w.heap.size })
  rw [show (w.alloc (Obj.deferred (some []))).heap.size = w.heap.size + 1 by simp] at hm1
  have hgv : ({ a with defers := [] } : Act).eval g = .func (.func gf) #[] caps := hf.o1 hg
  generalize hW : ((w.alloc (.deferred (some []))).alloc (.loop { state := .ready, pending := none, fn, tmps := a.tmps, params := ps, assign, body, defers := w.heap.size })) = W1 at hm1
  refine ⟨w.heap.size + 1, [{ target := .collected w.heap.size, args := #[] }], W1, { target := .fn (.func gf) caps, args := #[.func (.yield (w.heap.size + 1)) #[] #[]] }, W1, gf, #[.func (.yield (w.heap.size + 1)) #[] #[]] ++ caps, W1, hW ▸ run_enterLoop_outer fn a.tmps ps assign body, ?_, fun _ _ => trivial, ?_, fun hd => absurd hd (by simp [wideR, Fence.wide]), ?_⟩
  · simp only [resolve, hgv]
    simp [Deferred.ofValue, Act.eval]
  · have hgo := hfn.1 (#[.func (.yield (w.heap.size + 1)) #[] #[]] ++ caps) W1
    simpa [invoke] using hgo
  · refine callsIn_wideR.2 ?_
    have hargs : (#[.func (.yield (w.heap.size + 1)) #[] #[]] ++ caps : Array Value) = (Value.func (.yield (w.heap.size + 1)) #[] #[] :: caps.toList).toArray := by
      apply Array.ext'; simp
    rw [hargs]
    refine (hfn.2 _ (hin _ hm1)).mono ?_
    rintro e w' ⟨v, Lo, rfl, hpo, hm', hmu⟩
    have hm2 := Mem.call (hsplit M _ hm1) hD hm' hmu
    obtain ⟨rec, Lr, hgr, hnb, hfin⟩ := hk v Lo hpo
    have hm3 := hgr _ _ hm2
    have hl : w'.heap[w.heap.size + 1]? = some (.loop rec) := hm3.get (k := 0) rfl
    refine ⟨rec.pending, _, run_endLoop hl hnb, ?_⟩
    have hm4 : Mem M Lr (w'.putObj (w.heap.size + 1) (.loop { rec with state := .exhausted })) := Gives.uncons _ _ _ _ hm3.putObj
    revert hm4
    generalize (w'.putObj (w.heap.size + 1) (.loop { rec with state := .exhausted })) = W4
    intro hm4
    cases hpd : rec.pending with
    | none =>
      rw [hpd] at hfin
      exact ⟨a, _, rfl, t, Lr, hf, hm4, hfin⟩
    | some c =>
      rw [hpd] at hfin
      cases c with
      | ret => exact cr_ret (Q := Q) hfin a _ hf hm4
      | exit id => exact cr_exit (Q := Q) hfin a _ hf hm4
      | _ => exact hfin.elim
/-- a function whose body may hold such a statement -/
def bodyR (P : Program) (fn : Func) (post : Value → List Ck → Prop) : PostD := fun ds e t L =>
  (ds = [] ∧ bodyQ P fn post e t L) ∨ ∃ d Lr, ds = [⟨.collected d, #[]⟩] ∧ Gives L (.obj d (.deferred (some [])) :: Lr) ∧ bodyQ P fn post e t Lr
theorem fn_enter_m {f : FuncId} {fn : Func} {c : Code} {args : List Value} {Lin : List Ck} {D : List Nat} {post : Value → List Ck → Prop} (hf : P.funcs[f]? = some fn) (hb : fn.body = some c) (hn : fn.ntmps = n) (hname : (fn.name == "runtime.NumGoroutine") = false) (hle : Nat.ble args.length n = true)
    (h : ∀ w0, CR none [] P n ⟨w0, D⟩ c (bodyR P fn post) (argsFr 0 args) Lin) : Fn P f args Lin D post := by
  refine ⟨goes_of hf hname (by rw [hb]; rfl), fun w hm => callsIn_wide.1 (callsIn_of_wp_marks (n := 0) hf hb trivial (show c.wpIn (wideR none) 0 P _ _ w from wpIn_mono (h w { tmps := args.toArray ++ Array.replicate (fn.ntmps - args.toArray.size) undef, defers := [] } w ?_ hm) fun e a' w' hq => ?_))⟩
  · refine ⟨rfl, by have := Nat.le_of_ble_eq_true hle; simp [hn]; omega, fun d c v hd => ?_⟩
    obtain ⟨rfl, _, hv⟩ := lk_args args 0 d c v hd
    simp only [Nat.sub_zero] at hv
    have hlt : d < args.length := (List.getElem?_eq_some_iff.1 hv).1
    have : (args.toArray ++ Array.replicate (fn.ntmps - args.toArray.size) undef)[d]? = args.toArray[d]? := Array.getElem?_append_left (by simpa using hlt)
    rw [this]
    simpa [cb] using hv
  · obtain ⟨a0, ds', rfl, hq⟩ := hq
    have key : ∀ t L, Frm n t a0 → Mem ⟨w, D⟩ L w' → (∃ v, RetIs P fn t L v ∧ ∃ Lo, Gives L Lo ∧ Lo.all Ck.mut_ = true ∧ post v Lo) →
        ∃ v, (results fn a0.tmps).run P w' = .ok v w' ∧ ∃ v' Lo, Ending.returned v = .returned v' ∧ post v' Lo ∧ Mem ⟨w, D⟩ Lo w' ∧ Lo.all Ck.mut_ = true := by
      rintro t L hf hm ⟨v, hr, Lo, hg, hmu, hp⟩
      exact ⟨v, hr n _ a0 w' hf hm, v, Lo, rfl, hp, hg _ _ hm, hmu⟩
    have key2 : ∀ t L d Lr, Frm n t a0 → Mem ⟨w, D⟩ L w' → Gives L (.obj d (.deferred (some [])) :: Lr) → (∃ v, RetIs P fn t Lr v ∧ ∃ Lo, Gives Lr Lo ∧ Lo.all Ck.mut_ = true ∧ post v Lo) →
        LeavesInM Fence.wide 0 P fn a0.tmps (fun e w'' => ∃ v' Lo, e = .returned v' ∧ post v' Lo ∧ Mem ⟨w, D⟩ Lo w'' ∧ Lo.all Ck.mut_ = true) [⟨.collected d, #[]⟩] .returning w' := by
      rintro t L d Lr hf hm hgd ⟨v, hr, Lo, hg, hmu, hp⟩
      have hm1 := hgd _ _ hm
      have hl : w'.heap[d]? = some (.deferred (some [])) := hm1.get (k := 0) rfl
      have hm2 : Mem ⟨w, D⟩ Lr (w'.putObj d (.deferred none)) := Gives.uncons _ _ _ _ hm1.putObj
      exact ⟨by simp, .inl ⟨d, _, rfl, run_takeDeferred hl, v, hr n _ a0 _ hf hm2, v, Lo, rfl, hp, hg _ _ hm2, hmu⟩⟩
    cases e <;> first
      | exact hq.elim
      | (obtain ⟨t, L, hf, hm, hq⟩ := hq
         rcases hq with ⟨rfl, hq⟩ | ⟨d, Lr, rfl, hgd, hq⟩
         · first
           | exact hq.elim
           | exact key t L hf hm hq
         · first
           | exact hq.elim
           | exact key2 t L d Lr hf hm hgd hq)
end
end Go.Proofs.YtmochicneilhhaaGreat
