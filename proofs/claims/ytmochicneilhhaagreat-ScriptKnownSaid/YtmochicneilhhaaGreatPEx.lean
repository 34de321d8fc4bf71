/- The walk's own judgements: code and lists of operations from a frame (slots) and chunks of memory; the world behind them has no name. -/
import Derived.Test.YtmochicneilhhaaGreatPEv
namespace Go.Proofs.YtmochicneilhhaaGreat
open Go.RowKit

/-- how a walk may end: not by a panic, and not by outgrowing memory -/
inductive Ex where
  | normal
  | exit (id : Nat)
  | ret
abbrev Post := Ex → Fr → List Ck → Prop
def QQ (n : Nat) (M : Me) (Q : Post) : Exit → Act → World → Prop
  | .normal, a, w => ∃ t L, Frm n t a ∧ Mem M L w ∧ Q .normal t L
  | .exit id, a, w => ∃ t L, Frm n t a ∧ Mem M L w ∧ Q (.exit id) t L
  | .ret, a, w => ∃ t L, Frm n t a ∧ Mem M L w ∧ Q .ret t L
  | _, _, _ => False
def CX (P : Program) (n : Nat) (M : Me) (c : Code) (Q : Post) (t : Fr) (L : List Ck) : Prop := ∀ a w, Frm n t a → Mem M L w → c.wp P (QQ n M Q) a w
def thenQ (K : Fr → List Ck → Prop) (Q : Post) : Post
  | .normal, t, L => K t L
  | e, t, L => Q e t L
def blockQ (id : Nat) (Q : Post) : Post
  | .exit id', t, L => match Nat.beq id' id with
    | true => Q .normal t L
    | false => Q (.exit id') t L
  | e, t, L => Q e t L
/-- how a list of operations is gone through: in its order, or in whichever (the numbers in E may change memory, of the chunks L0 the others may look at) -/
inductive Way where
  | seq
  | any (E : List Nat) (L0 : List Ck)
def LW (P : Program) (M : Me) (ops : Array Oper) (Q : Exit → Act → World → Prop) : Way → Nat → List Oper → Act → World → Prop
  | .seq, _, l, a, w => wpList P ops Q l a w
  | .any E L0, i, l, a, w => wpSer P ops Q (Mem M L0) E i l a w
/-- what the chunks of the way hold -/
def Way.base (L : List Ck) : Way → List Ck
  | .seq => L
  | .any _ L0 => L0
def Way.loud (i : Nat) : Way → Bool
  | .seq => true
  | .any E _ => E.contains i
/-- chunks give other chunks -/
def Gives (L L' : List Ck) : Prop := ∀ M w, Mem M L w → Mem M L' w
def Way.gives (L : List Ck) : Way → Prop
  | .seq => True
  | .any _ L0 => Gives L L0
def LX (P : Program) (n : Nat) (M : Me) (ops : Array Oper) (s : Way) (i : Nat) (l : List Oper) (Q : Post) (t : Fr) (L : List Ck) : Prop :=
  s.gives L → ∀ a w, Frm n t a → Mem M L w → LW P M ops (QQ n M Q) s i l a w

section
variable {P : Program} {n : Nat} {M : Me} {Q : Post} {t : Fr} {L : List Ck} {ops : Array Oper} {s : Way} {i : Nat} {rest : List Oper}

theorem QQ.noDeath (Q : Post) : NoDeath (QQ n M Q) := ⟨fun _ _ _ h => h, fun _ _ h => h⟩
theorem QQ.mono {Q Q' : Post} (h : ∀ e t L, Q e t L → Q' e t L) (e : Exit) (a : Act) (w : World) (hq : QQ n M Q e a w) : QQ n M Q' e a w := by
  cases e <;> first
    | exact hq.elim
    | exact (let ⟨t, L, hf, hm, hq⟩ := hq; ⟨t, L, hf, hm, h _ _ _ hq⟩)

theorem cx_skip (h : Q .normal t L) : CX P n M .skip Q t L := fun _ _ hf hm => wp_skip ⟨t, L, hf, hm, h⟩
theorem cx_ret (h : Q .ret t L) : CX P n M .ret Q t L := fun _ _ hf hm => wp_ret ⟨t, L, hf, hm, h⟩
theorem cx_exit {id : Nat} (h : Q (.exit id) t L) : CX P n M (.exit id) Q t L := fun _ _ hf hm => wp_exit ⟨t, L, hf, hm, h⟩
theorem cx_seq {x y : Code} (h : CX P n M x (thenQ (fun t L => CX P n M y Q t L) Q) t L) : CX P n M (.seq x y) Q t L := fun a w hf hm => by
  refine wp_seq (wp_mono (h a w hf hm) fun e a' w' hq => ?_)
  cases e <;> first
    | exact hq.elim
    | exact hq
    | exact (let ⟨t, L, hf, hm, hq⟩ := hq; hq a' w' hf hm)
theorem cx_block {id : Nat} {c : Code} (h : CX P n M c (blockQ id Q) t L) : CX P n M (.block id c) Q t L := fun a w hf hm => by
  refine wp_block (wp_mono (h a w hf hm) fun e a' w' hq => ?_)
  cases e <;> first
    | exact hq.elim
    | exact hq
    | skip
  rename_i id'
  obtain ⟨t, L, hf, hm, hq⟩ := hq
  unfold blockQ at hq
  show if id' = id then _ else _
  by_cases he : id' = id
  · rw [if_pos he]
    have : Nat.beq id' id = true := by rw [he]; exact Nat.beq_refl id
    simp only [this] at hq
    exact ⟨t, L, hf, hm, hq⟩
  · rw [if_neg he]
    have : Nat.beq id' id = false := by
      cases hb : Nat.beq id' id
      · rfl
      · exact absurd (Nat.eq_of_beq_eq_true hb) he
    simp only [this] at hq
    exact ⟨t, L, hf, hm, hq⟩
theorem cx_cond {x : Operand} {b : Bool} {c d : Code} (hx : ov t x = some (none, .bool b)) (h1 : b = true → CX P n M c Q t L) (h2 : b = false → CX P n M d Q t L) : CX P n M (.cond x c d) Q t L := fun a w hf hm => by
  refine wp_cond (hf.ov hx rfl) ?_
  cases b
  · exact h2 rfl a w hf hm
  · exact h1 rfl a w hf hm
theorem cx_region {id : Nat} {l : List Oper} (h : LX P n M l.toArray .seq 0 l Q t L) : CX P n M (.region id l.toArray false) Q t L := fun a w hf hm => wp_region_lit (h trivial a w hf hm)
theorem cx_draw {id : Nat} {l : List Oper} (E : List Nat) (L0 : List Ck) (hm' : P.follows .mixedOrders = true) (hser : serialB l.toArray E = true) (hg : Gives L L0) (h : LX P n M l.toArray (.any E L0) 0 l Q t L) : CX P n M (.region id l.toArray true) Q t L := fun a _ hf hm =>
  wp_region_ser E (Mem M L0) hm' hser (QQ.noDeath Q) (hg M _ hm.drew) (h hg a _ hf hm.drew)
theorem cx_weak {c : Code} {t' : Fr} {L' : List Ck} (hf' : ∀ a, Frm n t a → Frm n t' a) (hg : Gives L L') (h : CX P n M c Q t' L') : CX P n M c Q t L := fun a w hf hm => h a w (hf' a hf) (hg M w hm)
theorem cx_mono {c : Code} {Q' : Post} (hq : ∀ e t L, Q e t L → Q' e t L) (h : CX P n M c Q t L) : CX P n M c Q' t L := fun a w hf hm => wp_mono (h a w hf hm) fun e a' w' => QQ.mono hq e a' w'

/-- slots of a frame that stand in another one too -/
def Sub : Fr → Fr → Prop
  | [], _ => True
  | (d, c, v) :: s, t => lk t d = some (c, v) ∧ Sub s t
theorem Sub.frm {a : Act} (hf : Frm n t a) : ∀ {s : Fr}, Sub s t → Frm n s a := by
  intro s hs
  refine ⟨hf.defers, hf.size, fun d c v hk => hf.slot d c v ?_⟩
  induction s with
  | nil => cases hk
  | cons x s ih =>
    obtain ⟨d', c', v'⟩ := x
    by_cases he : d' = d
    · subst he
      rw [lk_cons_self] at hk
      cases hk
      exact hs.1
    · rw [lk_cons_ne he] at hk
      exact ih hs.2 hk

theorem cx_loop {c : Code} {α : Type} (S : α → Fr) (m : α → List Ck) (μ : α → Nat) (x : α) (hs : Sub (S x) t) (hg : Gives L (m x))
    (h : ∀ x, CX P n M c (thenQ (fun t' L' => ∃ y, Sub (S y) t' ∧ Gives L' (m y) ∧ μ y < μ x) Q) (S x) (m x)) : CX P n M (.loop c) Q t L := fun a w hf hm => by
  have key : ∀ x a w, Frm n (S x) a → Mem M (m x) w → (Code.loop c).wp P (QQ n M Q) a w := by
    intro x a w hf hm
    refine wp_loop (fun a w => ∃ x, Frm n (S x) a ∧ Mem M (m x) w) (fun a w => leastOf (fun k => ∃ x, Frm n (S x) a ∧ Mem M (m x) w ∧ μ x = k)) ⟨x, hf, hm⟩ ?_
    rintro a w ⟨x0, hf0, hm0⟩
    obtain ⟨⟨x, hf, hm, hx⟩, _⟩ := leastOf_spec (p := fun k => ∃ x, Frm n (S x) a ∧ Mem M (m x) w ∧ μ x = k) ⟨μ x0, x0, hf0, hm0, rfl⟩
    refine wp_mono (h x a w hf hm) fun e a' w' hq => ?_
    cases e <;> first
      | exact hq.elim
      | exact hq
      | skip
    obtain ⟨t', L', hf', hm', y, hs', hg', hlt⟩ := hq
    refine ⟨⟨y, hs'.frm hf', hg' M w' hm'⟩, Nat.lt_of_le_of_lt ((leastOf_spec (p := fun k => ∃ x, Frm n (S x) a' ∧ Mem M (m x) w' ∧ μ x = k) ⟨μ y, y, hs'.frm hf', hg' M w' hm', rfl⟩).2 _ ⟨y, hs'.frm hf', hg' M w' hm', rfl⟩) (hx ▸ hlt)⟩
  exact key x a w (hs.frm hf) (hg M w hm)

/-- ways that meet again -/
theorem cx_seq_to {x y : Code} {α : Type} (S : α → Fr) (m : α → List Ck) (h : CX P n M x (thenQ (fun t' L' => ∃ z, Sub (S z) t' ∧ Gives L' (m z)) Q) t L) (hy : ∀ z, CX P n M y Q (S z) (m z)) : CX P n M (.seq x y) Q t L := by
  refine cx_seq (cx_mono (fun e t' L' hq => ?_) h)
  cases e <;> first
    | exact hq
    | (obtain ⟨z, hs, hg⟩ := hq
       exact cx_weak (fun a hf => hs.frm hf) hg (hy z))
theorem Gives.refl (L : List Ck) : Gives L L := fun _ _ h => h
theorem Gives.pick {L L' : List Ck} (ks : List Nat) (hn : ks.Nodup) (he : pickL L ks = L') : Gives L L' := fun _ _ h => he ▸ h.pick ks hn
theorem Gives.trans {L L' L'' : List Ck} (h : Gives L L') (k : Gives L' L'') : Gives L L'' := fun M w hm => k M w (h M w hm)

theorem Way.gives.base (hs : s.gives L) {w : World} (hm : Mem M L w) : Mem M (s.base L) w := by
  cases s with
  | seq => exact hm
  | any E L0 => exact hs M w hm
theorem lx_nil (h : Q .normal t L) : LX P n M ops s i [] Q t L := fun _ a w hf hm => by
  have hq : QQ n M Q .normal a w := ⟨t, L, hf, hm, h⟩
  cases s with
  | seq => exact hq
  | any E L0 => exact hq

/-- the guard of an operation: the condition under which it is wanted -/
def gOf (ops : Array Oper) (t : Fr) (o : Oper) : Option (Option Bool) := match o.guard with
  | none => some none
  | some (j, want) => match (ops[j]?).bind (·.dst) with
    | none => none
    | some g => match lk t g with
      | some (none, .bool q) => match want with
        | true => some (some q)
        | false => some (some (!q))
      | some (some c, .bool q) => match want with
        | true => some (some (c && q))
        | false => some (some (c && !q))
      | _ => none
theorem gOf_ok {o : Oper} {p : Option Bool} {a : Act} (hf : Frm n t a) (h : gOf ops t o = some p) : Region.wanted o (yielded ops a.tmps) = cb p := by
  unfold gOf at h
  unfold Region.wanted
  cases hg : o.guard with
  | none => rw [hg] at h; cases h; rfl
  | some jw =>
    obtain ⟨j, want⟩ := jw
    rw [hg] at h
    simp only at h
    split at h
    · cases h
    · rename_i g hgd
      have hy : ∀ c q, lk t g = some (c, .bool q) → yielded ops a.tmps j = bif cb c then some q else none := by
        intro c q hk
        unfold yielded
        simp only [hgd, Option.bind_some, hf.slot g c _ hk]
        cases cb c <;> rfl
      split at h
      · rename_i q hk
        simp only [hy _ _ hk]
        cases q <;> cases want <;> (cases h; rfl)
      · rename_i c q hk
        simp only [hy _ _ hk]
        cases c <;> cases q <;> cases want <;> (cases h; rfl)
      · cases h

/-- the value that an operation yields, whatever the world with these chunks -/
def Yl (P : Program) (n : Nat) (t : Fr) (L : List Ck) (p : Option Bool) (o : Oper) (v : Value) : Prop :=
  cb p = true → ∀ M a w, Frm n t a → Mem M L w → (execOp a.eval o).run P w = .ok (.value v) w

theorem lx_quiet {o : Oper} {d : Nat} {p : Option Bool} {v : Value} (hg : gOf ops t o = some p) (hd : o.dst = some d) (hn : d < n) (hy : Yl P n t (s.base L) p o v)
    (h : LX P n M ops s (i + 1) rest Q ((d, p, v) :: t) L) : LX P n M ops s i (o :: rest) Q t L := fun hs a w hf hm => by
  have hw := gOf_ok (ops := ops) hf hg
  have hx := h hs _ w (hf.put hn p v) hm
  cases hp : cb p with
  | false =>
    rw [hp] at hw hx
    cases s with
    | seq =>
      refine wpList_step fun K hK => ?_
      rw [if_neg (by rw [hw]; simp), hd]
      exact hK _ _ hx
    | any E L0 => exact ser_unwanted hw (by rw [hd]; exact hx)
  | true =>
    rw [hp] at hw hx
    cases s with
    | seq =>
      refine wpList_step fun K hK => ?_
      rw [if_pos hw]
      unfold Oper.wp
      rw [hy hp M a w hf hm]
      show K (a.put o.dst v) w
      rw [hd]
      exact hK _ _ hx
    | any E L0 => exact ser_quiet hw (fun w' hS => hy hp M a w' hf hS) (by rw [hd]; exact hx)
theorem lx_u {op : Op} {d : Nat} {ty : TypeId} {pos : String} {after : Array Edge} {v : Value} (hn : Nat.blt d n = true) (hy : Yl P n t (s.base L) none ⟨some d, op, ty, pos, after, none⟩ v)
    (h : LX P n M ops s (i + 1) rest Q ((d, none, v) :: t) L) : LX P n M ops s i (⟨some d, op, ty, pos, after, none⟩ :: rest) Q t L := lx_quiet rfl rfl (Nat.le_of_ble_eq_true hn) hy h
theorem lx_g {op : Op} {d j : Nat} {want : Bool} {ty : TypeId} {pos : String} {after : Array Edge} {p : Option Bool} {v : Value} (hg : gOf ops t ⟨some d, op, ty, pos, after, some (j, want)⟩ = some p) (hn : Nat.blt d n = true) (hy : Yl P n t (s.base L) p ⟨some d, op, ty, pos, after, some (j, want)⟩ v)
    (h : LX P n M ops s (i + 1) rest Q ((d, p, v) :: t) L) : LX P n M ops s i (⟨some d, op, ty, pos, after, some (j, want)⟩ :: rest) Q t L := lx_quiet hg rfl (Nat.le_of_ble_eq_true hn) hy h
/-- one that is not wanted -/
theorem lx_not {o : Oper} {d : Nat} {p : Option Bool} (hg : gOf ops t o = some p) (hp : cb p = false) (hd : o.dst = some d) (hn : Nat.blt d n = true)
    (h : LX P n M ops s (i + 1) rest Q ((d, none, undef) :: t) L) : LX P n M ops s i (o :: rest) Q t L := fun hs a w hf hm => by
  have hw := (gOf_ok (ops := ops) hf hg).trans hp
  have hx := h hs _ w (hf.put (Nat.le_of_ble_eq_true hn) none undef) hm
  cases s with
  | seq =>
    refine wpList_step fun K hK => ?_
    rw [if_neg (by rw [hw]; simp), hd]
    exact hK _ _ hx
  | any E L0 => exact ser_unwanted hw (by rw [hd]; exact hx)
theorem yl_op {E : Env P} {p : Option Bool} {o : Oper} {v : Value} (h : evOp E.f (o1 t) o.op = some v) : Yl P n t L p o v := fun _ _ _ w hf _ => evOp_ok (fun _ _ hx => hf.o1 hx) h w
/-- conditions that a guard gives -/
def Imps (p : Option Bool) (t : Fr) : List Operand → Prop
  | [] => True
  | x :: xs => (match ov t x with
    | some (some c, _) => cb p = true → c = true
    | _ => True) ∧ Imps p t xs
theorem Imps.get {p : Option Bool} : ∀ {xs : List Operand}, Imps p t xs → ∀ x ∈ xs, ∀ c v, ov t x = some (c, v) → cb p = true → cb c = true
  | _ :: _, h, _, .head _, c, v, hx => by
    cases c with
    | none => exact fun _ => rfl
    | some c => simpa [hx, cb] using h.1
  | _ :: _, h, y, .tail _ hm, c, v, hx => Imps.get h.2 y hm c v hx

theorem yl_op2 {E : Env P} {p : Option Bool} {o : Oper} {v : Value} (h : evOp E.f (o2 t) o.op = some v) (hi : Imps p t o.op.operands.toList) : Yl P n t L p o v := fun hp _ a w hf _ => by
  refine evOp_ok (E := E) (ρ := fun x => open Classical in if ∀ c u, ov t x = some (c, u) → cb c = true then o2 t x else none) ?_ ((evOp_congr (fun x hx => ?_)).trans h) w
  · intro x u hu
    split at hu
    · rename_i hall
      unfold o2 at hu
      split at hu
      · rename_i c v hv
        cases hu
        exact hf.ov hv (hall c _ hv)
      · cases hu
    · cases hu
  · rw [if_pos fun c u hu => hi.get x hx c u hu hp]
theorem yl_and {p c0 c1 : Option Bool} {q x : Bool} {dst : Option Tmp} {c a b : Operand} {ty : TypeId} {pos : String} {after : Array Edge} {guard : Option (Nat × Bool)} (hc : ov t c = some (c0, .bool q)) (ha : ov t a = some (c1, .bool x)) (hb : o1 t b = some (.bool false))
    (h0 : cb p = true → cb c0 = true) (h1 : cb p = true → q = true → cb c1 = true) : Yl P n t L p ⟨dst, .pick c a b, ty, pos, after, guard⟩ (.bool (q && x)) := fun hp _ a' w hf _ => by
  unfold execOp
  simp only [hf.ov hc (h0 hp), hf.o1 hb, asBool, Sem.run_bind, Sem.run_pure, Result.andThen_ok]
  cases q
  · rfl
  · rw [hf.ov ha (h1 hp rfl)]; rfl
theorem yl_or {p c0 c1 : Option Bool} {q x : Bool} {dst : Option Tmp} {c a b : Operand} {ty : TypeId} {pos : String} {after : Array Edge} {guard : Option (Nat × Bool)} (hc : ov t c = some (c0, .bool q)) (ha : o1 t a = some (.bool true)) (hb : ov t b = some (c1, .bool x))
    (h0 : cb p = true → cb c0 = true) (h1 : cb p = true → q = false → cb c1 = true) : Yl P n t L p ⟨dst, .pick c a b, ty, pos, after, guard⟩ (.bool (q || x)) := fun hp _ a' w hf _ => by
  unfold execOp
  simp only [hf.ov hc (h0 hp), hf.o1 ha, asBool, Sem.run_bind, Sem.run_pure, Result.andThen_ok]
  cases q
  · rw [if_neg (by simp), hf.ov hb (h1 hp rfl)]; rfl
  · rfl

theorem tq_n {K : Fr → List Ck → Prop} (h : K t L) : thenQ K Q .normal t L := h
theorem tq_r {K : Fr → List Ck → Prop} (h : Q .ret t L) : thenQ K Q .ret t L := h
theorem tq_e {K : Fr → List Ck → Prop} {id : Nat} (h : Q (.exit id) t L) : thenQ K Q (.exit id) t L := h
theorem bk_n {id : Nat} (h : Q .normal t L) : blockQ id Q .normal t L := h
theorem bk_r {id : Nat} (h : Q .ret t L) : blockQ id Q .ret t L := h
theorem bk_e {id id' : Nat} (hb : Nat.beq id' id = true) (h : Q .normal t L) : blockQ id Q (.exit id') t L := by
  unfold blockQ
  simp only [hb]
  exact h
theorem bk_x {id id' : Nat} (hb : Nat.beq id' id = false) (h : Q (.exit id') t L) : blockQ id Q (.exit id') t L := by
  unfold blockQ
  simp only [hb]
  exact h
theorem Gives.nil (L : List Ck) : Gives L [] := fun _ _ h => ⟨h.keep, by simp, by simp, .nil⟩

/-- one that may change memory: a call, an append, .. -/
theorem lx_loud {o : Oper} (hl : s.loud i = true) {p : Option Bool} (hg : gOf ops t o = some p) (hp : cb p = true)
    (h : ∀ a w, Frm n t a → Mem M L w → s.gives L → ∀ K : Act → World → Prop,
      (∀ a' w' t' L', Frm n t' a' → Mem M L' w' → s.gives L' → LX P n M ops s (i + 1) rest Q t' L' → K a' w') → o.wp P a w K (QQ n M Q)) :
    LX P n M ops s i (o :: rest) Q t L := fun hs a w hf hm => by
  have hw := (gOf_ok (ops := ops) hf hg).trans hp
  have hx := h a w hf hm hs
  cases s with
  | seq =>
    refine wpList_step fun K hK => ?_
    rw [if_pos hw]
    exact hx K fun a' w' t' L' hf' hm' hs' hk => hK a' w' (hk hs' a' w' hf' hm')
  | any E L0 => exact ser_loud hl hw fun K hK => hx K fun a' w' t' L' hf' hm' hs' hk => hK a' w' (hs' M w' hm') (hk hs' a' w' hf' hm')

theorem Gives.tail (c : Ck) (L : List Ck) : Gives (c :: L) L := fun _ _ h => ⟨h.keep, fun x hx => h.all x (List.mem_cons_of_mem _ hx), fun x hx => h.out x (List.mem_cons_of_mem _ hx), (List.pairwise_cons.1 h.sep).2⟩
theorem Gives.right (L1 L : List Ck) : Gives (L1 ++ L) L := fun _ _ h => ⟨h.keep, fun x hx => h.all x (List.mem_append_right _ hx), fun x hx => h.out x (List.mem_append_right _ hx), (List.pairwise_append.1 h.sep).2.1⟩
theorem Gives.left (L1 L : List Ck) : Gives (L1 ++ L) L1 := fun _ _ h => ⟨h.keep, fun x hx => h.all x (List.mem_append_left _ hx), fun x hx => h.out x (List.mem_append_left _ hx), (List.pairwise_append.1 h.sep).1⟩
theorem Way.gives.more (hs : s.gives L) {L' : List Ck} (h : Gives L' L) : s.gives L' := by
  cases s with
  | seq => trivial
  | any E L0 => exact h.trans hs

def cellsL : Value → List Value
  | .agg cs => cs.toList
  | v => [v]
theorem cellsL_ok (v : Value) : v.cells = (cellsL v).toArray := by cases v <;> simp [Value.cells, cellsL]

theorem lx_new {o : Oper} {d : Nat} {cs : List Value} {T : TypeId} (hl : s.loud i = true) {p : Option Bool} (hg : gOf ops t o = some p) (hp : cb p = true) (hd : o.dst = some d) (hn : Nat.blt d n = true) (f : Nat → Value)
    (hr : ∀ a w, Frm n t a → (execOp a.eval o).run P w = .ok (.value (f w.heap.size)) (w.alloc (.cells cs.toArray T)))
    (h : ∀ b, LX P n M ops s (i + 1) rest Q ((d, none, f b) :: t) (.blk b cs T :: L)) : LX P n M ops s i (o :: rest) Q t L :=
  lx_loud hl hg hp fun a w hf hm hs K hK => by
    unfold Oper.wp
    rw [hr a w hf]
    show K (a.put o.dst _) _
    rw [hd]
    exact hK _ _ _ _ (hf.put1 (Nat.le_of_ble_eq_true hn) _) (hm.alloc cs T) (hs.more (Gives.tail _ _)) (h w.heap.size)
theorem lx_box {T : TypeId} {x : Operand} {dst : Option Tmp} {ty : TypeId} {pos : String} {after : Array Edge} {guard : Option (Nat × Bool)} {d : Nat} {v : Value} (hl : s.loud i = true) {p : Option Bool} (hg : gOf ops t ⟨dst, .box T x, ty, pos, after, guard⟩ = some p) (hp : cb p = true) (hd : dst = some d) (hn : Nat.blt d n = true) (hx : o1 t x = some v)
    (h : ∀ b, LX P n M ops s (i + 1) rest Q ((d, none, .pointer (some ⟨b, 0, none⟩)) :: t) (.blk b (cellsL v) T :: L)) : LX P n M ops s i (⟨dst, .box T x, ty, pos, after, guard⟩ :: rest) Q t L :=
  lx_new hl hg hp hd hn (fun b => .pointer (some ⟨b, 0, none⟩)) (fun a w hf => by
    have hv := hf.o1 hx
    unfold execOp
    simp [hv, Instr.box, newVar, newRow, newObj, cellsL_ok]
    rfl) h
theorem lx_alloc {E : Env P} {T : TypeId} {dst : Option Tmp} {ty : TypeId} {pos : String} {after : Array Edge} {guard : Option (Nat × Bool)} {d : Nat} {j : TyI} {z : Value} (hl : s.loud i = true) {p : Option Bool} (hg : gOf ops t ⟨dst, .alloc T, ty, pos, after, guard⟩ = some p) (hp : cb p = true) (hd : dst = some d) (hn : Nat.blt d n = true) (hT : E.f T = some j) (hz : j.zero = some z)
    (h : ∀ b, LX P n M ops s (i + 1) rest Q ((d, none, .pointer (some ⟨b, 0, none⟩)) :: t) (.blk b (cellsL z) T :: L)) : LX P n M ops s i (⟨dst, .alloc T, ty, pos, after, guard⟩ :: rest) Q t L :=
  lx_new hl hg hp hd hn (fun b => .pointer (some ⟨b, 0, none⟩)) (fun a w hf => by
    have h0 := E.zero hT hz
    unfold execOp
    simp [Instr.alloc, h0, newVar, newRow, newObj, cellsL_ok]
    rfl) h
end
/- What kind of operation stands there: to be asked first, for speed. -/
section
variable {P : Program} {n : Nat} {M : Me} {Q : Post} {t : Fr} {L : List Ck} {ops : Array Oper} {s : Way} {i : Nat} {rest : List Oper} {p : Option Bool} {dst : Option Tmp} {ty : TypeId} {pos : String} {after : Array Edge} {guard : Option (Nat × Bool)} {v : Value}
theorem isy_indexAddr {T : TypeId} {x y : Operand} (h : Yl P n t L p ⟨dst, .indexAddr T x y, ty, pos, after, guard⟩ v) : Yl P n t L p ⟨dst, .indexAddr T x y, ty, pos, after, guard⟩ v := h
theorem isy_index {T : TypeId} {x y : Operand} (h : Yl P n t L p ⟨dst, .index T x y, ty, pos, after, guard⟩ v) : Yl P n t L p ⟨dst, .index T x y, ty, pos, after, guard⟩ v := h
theorem isy_load {T : TypeId} {x : Operand} (h : Yl P n t L p ⟨dst, .load T x, ty, pos, after, guard⟩ v) : Yl P n t L p ⟨dst, .load T x, ty, pos, after, guard⟩ v := h
theorem isy_fieldAddr {T : TypeId} {x : Operand} {f : Nat} (h : Yl P n t L p ⟨dst, .fieldAddr T x f, ty, pos, after, guard⟩ v) : Yl P n t L p ⟨dst, .fieldAddr T x f, ty, pos, after, guard⟩ v := h
theorem isy_slice {T : TypeId} {x : Operand} {y z u : Option Operand} (h : Yl P n t L p ⟨dst, .slice T x y z u, ty, pos, after, guard⟩ v) : Yl P n t L p ⟨dst, .slice T x y z u, ty, pos, after, guard⟩ v := h
theorem isy_pick {x y z : Operand} (h : Yl P n t L p ⟨dst, .pick x y z, ty, pos, after, guard⟩ v) : Yl P n t L p ⟨dst, .pick x y z, ty, pos, after, guard⟩ v := h
theorem isy_build {T : TypeId} {ps : Array (Nat × Operand)} (h : Yl P n t L p ⟨dst, .build T ps, ty, pos, after, guard⟩ v) : Yl P n t L p ⟨dst, .build T ps, ty, pos, after, guard⟩ v := h
theorem isy_bin {op : BinOp} {T T' : TypeId} {x y : Operand} (h : Yl P n t L p ⟨dst, .binOp op T x y T', ty, pos, after, guard⟩ v) : Yl P n t L p ⟨dst, .binOp op T x y T', ty, pos, after, guard⟩ v := h
theorem isy_convert {S T : TypeId} {x : Operand} (h : Yl P n t L p ⟨dst, .convert S T x, ty, pos, after, guard⟩ v) : Yl P n t L p ⟨dst, .convert S T x, ty, pos, after, guard⟩ v := h
theorem isy_blt {b : Builtin} {xs : Array Operand} {ts : Array TypeId} (h : Yl P n t L p ⟨dst, .call ⟨.builtin b, xs, ts⟩, ty, pos, after, guard⟩ v) : Yl P n t L p ⟨dst, .call ⟨.builtin b, xs, ts⟩, ty, pos, after, guard⟩ v := h
theorem isy_makeFunc {f : Go.Fn} {xs ys : Array Operand} (h : Yl P n t L p ⟨dst, .makeFunc f xs ys, ty, pos, after, guard⟩ v) : Yl P n t L p ⟨dst, .makeFunc f xs ys, ty, pos, after, guard⟩ v := h
theorem isy_bin_add {T T' : TypeId} {x y : Operand} (h : Yl P n t L p ⟨dst, .binOp .add T x y T', ty, pos, after, guard⟩ v) : Yl P n t L p ⟨dst, .binOp .add T x y T', ty, pos, after, guard⟩ v := h
theorem isy_bin_sub {T T' : TypeId} {x y : Operand} (h : Yl P n t L p ⟨dst, .binOp .sub T x y T', ty, pos, after, guard⟩ v) : Yl P n t L p ⟨dst, .binOp .sub T x y T', ty, pos, after, guard⟩ v := h
theorem isy_bin_mul {T T' : TypeId} {x y : Operand} (h : Yl P n t L p ⟨dst, .binOp .mul T x y T', ty, pos, after, guard⟩ v) : Yl P n t L p ⟨dst, .binOp .mul T x y T', ty, pos, after, guard⟩ v := h
theorem isy_bin_quo {T T' : TypeId} {x y : Operand} (h : Yl P n t L p ⟨dst, .binOp .quo T x y T', ty, pos, after, guard⟩ v) : Yl P n t L p ⟨dst, .binOp .quo T x y T', ty, pos, after, guard⟩ v := h
theorem isy_bin_rem {T T' : TypeId} {x y : Operand} (h : Yl P n t L p ⟨dst, .binOp .rem T x y T', ty, pos, after, guard⟩ v) : Yl P n t L p ⟨dst, .binOp .rem T x y T', ty, pos, after, guard⟩ v := h
theorem isy_bin_eql {T T' : TypeId} {x y : Operand} (h : Yl P n t L p ⟨dst, .binOp .eql T x y T', ty, pos, after, guard⟩ v) : Yl P n t L p ⟨dst, .binOp .eql T x y T', ty, pos, after, guard⟩ v := h
theorem isy_bin_neq {T T' : TypeId} {x y : Operand} (h : Yl P n t L p ⟨dst, .binOp .neq T x y T', ty, pos, after, guard⟩ v) : Yl P n t L p ⟨dst, .binOp .neq T x y T', ty, pos, after, guard⟩ v := h
theorem isy_bin_and {T T' : TypeId} {x y : Operand} (h : Yl P n t L p ⟨dst, .binOp .and T x y T', ty, pos, after, guard⟩ v) : Yl P n t L p ⟨dst, .binOp .and T x y T', ty, pos, after, guard⟩ v := h
theorem isy_bin_or {T T' : TypeId} {x y : Operand} (h : Yl P n t L p ⟨dst, .binOp .or T x y T', ty, pos, after, guard⟩ v) : Yl P n t L p ⟨dst, .binOp .or T x y T', ty, pos, after, guard⟩ v := h
theorem isy_bin_xor {T T' : TypeId} {x y : Operand} (h : Yl P n t L p ⟨dst, .binOp .xor T x y T', ty, pos, after, guard⟩ v) : Yl P n t L p ⟨dst, .binOp .xor T x y T', ty, pos, after, guard⟩ v := h
theorem isy_bin_shl {T T' : TypeId} {x y : Operand} (h : Yl P n t L p ⟨dst, .binOp .shl T x y T', ty, pos, after, guard⟩ v) : Yl P n t L p ⟨dst, .binOp .shl T x y T', ty, pos, after, guard⟩ v := h
theorem isy_bin_shr {T T' : TypeId} {x y : Operand} (h : Yl P n t L p ⟨dst, .binOp .shr T x y T', ty, pos, after, guard⟩ v) : Yl P n t L p ⟨dst, .binOp .shr T x y T', ty, pos, after, guard⟩ v := h
theorem isx_load {T : TypeId} {x : Operand} (h : LX P n M ops s i (⟨dst, .load T x, ty, pos, after, guard⟩ :: rest) Q t L) : LX P n M ops s i (⟨dst, .load T x, ty, pos, after, guard⟩ :: rest) Q t L := h
theorem isx_call {x : Operand} {xs : Array Operand} {ts : Array TypeId} (h : LX P n M ops s i (⟨dst, .call ⟨.value x, xs, ts⟩, ty, pos, after, guard⟩ :: rest) Q t L) : LX P n M ops s i (⟨dst, .call ⟨.value x, xs, ts⟩, ty, pos, after, guard⟩ :: rest) Q t L := h
theorem isx_blt {b : Builtin} {xs : Array Operand} {ts : Array TypeId} (h : LX P n M ops s i (⟨dst, .call ⟨.builtin b, xs, ts⟩, ty, pos, after, guard⟩ :: rest) Q t L) : LX P n M ops s i (⟨dst, .call ⟨.builtin b, xs, ts⟩, ty, pos, after, guard⟩ :: rest) Q t L := h
theorem isx_store {T : TypeId} {x y : Operand} (h : LX P n M ops s i (⟨dst, .store T x y, ty, pos, after, guard⟩ :: rest) Q t L) : LX P n M ops s i (⟨dst, .store T x y, ty, pos, after, guard⟩ :: rest) Q t L := h
theorem isx_box {T : TypeId} {x : Operand} (h : LX P n M ops s i (⟨dst, .box T x, ty, pos, after, guard⟩ :: rest) Q t L) : LX P n M ops s i (⟨dst, .box T x, ty, pos, after, guard⟩ :: rest) Q t L := h
theorem isx_alloc {T : TypeId} (h : LX P n M ops s i (⟨dst, .alloc T, ty, pos, after, guard⟩ :: rest) Q t L) : LX P n M ops s i (⟨dst, .alloc T, ty, pos, after, guard⟩ :: rest) Q t L := h
theorem isx_row {T : TypeId} {m : Nat} {ps : Array (Nat × Operand)} (h : LX P n M ops s i (⟨dst, .buildSlice T m ps, ty, pos, after, guard⟩ :: rest) Q t L) : LX P n M ops s i (⟨dst, .buildSlice T m ps, ty, pos, after, guard⟩ :: rest) Q t L := h
theorem isx_make {T : TypeId} {x y : Operand} (h : LX P n M ops s i (⟨dst, .makeSlice T x y, ty, pos, after, guard⟩ :: rest) Q t L) : LX P n M ops s i (⟨dst, .makeSlice T x y, ty, pos, after, guard⟩ :: rest) Q t L := h
end
end Go.Proofs.YtmochicneilhhaaGreat
