/- The walk's steps: composite values, division, calls under a condition, append, own rows. A store into an element of an own row. -/
import Derived.Test.YtmochicneilhhaaGreatPSl
namespace Go.Proofs.YtmochicneilhhaaGreat
open Go.RowKit

theorem slot_int {κ : IntKind} {c : Option Bool} {a b : Int} (h : a = b) : some (c, Value.int κ a) = some (c, Value.int κ b) := by rw [h]
/-- cells, parts of them written over: what 'build' makes -/
def fillL (place : Nat → Option (Nat × Nat)) (cells : List Value) : List (Nat × Value) → Option (List Value)
  | [] => some cells
  | (i, v) :: r => match place i with
    | none => none
    | some (off, sz) => match Nat.beq (cellsL v).length sz with
      | false => none
      | true => match Nat.ble (off + sz) cells.length with
        | false => none
        | true => fillL place (setL cells off (cellsL v)) r
theorem fold_setL (off : Nat) (vs : List Value) (cells : Array Value) (h : off + vs.length ≤ cells.size) : vs.toArray.zipIdx.foldl (fun cs (x : Value × Nat) => cs.setIfInBounds (off + x.2) x.1) cells = (setL cells.toList off vs).toArray := by
  rw [← Array.foldl_toList, Array.toList_zipIdx]
  obtain ⟨h1, h2⟩ := Go.Great.foldl_set off vs 0 cells
  apply Array.ext_getElem?
  intro k
  rw [h2 k]
  simp only [Nat.add_zero, List.getElem?_toArray]
  rw [setL_eq _ _ _ (by simpa using h)]
  by_cases hk : off ≤ k ∧ k < off + vs.length ∧ k < cells.size
  · rw [if_pos hk, List.append_assoc, List.getElem?_append_right (by simp; omega), List.getElem?_append_left (by simp; omega)]
    congr 1
    simp
    omega
  · rw [if_neg hk]
    rcases Nat.lt_or_ge k off with h3 | h3
    · rw [List.append_assoc, List.getElem?_append_left (by simp; omega), List.getElem?_take, if_pos h3]
      simp
    · rw [List.getElem?_append_right (by simp; omega)]
      simp
      congr 1
      omega
theorem fillL_ok {place : Nat → Option (Nat × Nat)} : ∀ (parts : List (Nat × Value)) (cells r : List Value), fillL place cells parts = some r → Instr.fill place cells.toArray parts = some r.toArray
  | [], _, _, h => by cases h; rfl
  | (i, v) :: ps, cells, r, h => by
    unfold fillL at h
    unfold Instr.fill
    cases hp : place i with
    | none => rw [hp] at h; cases h
    | some os =>
      obtain ⟨off, sz⟩ := os
      rw [hp] at h
      simp only at h
      split at h
      · cases h
      · rename_i h1
        split at h
        · cases h
        · rename_i h2
          have h1 := Nat.eq_of_beq_eq_true h1
          have h2 := Nat.le_of_ble_eq_true h2
          have hsz : v.cells.size = sz := by rw [cellsL_ok]; simpa using h1
          simp only [hsz]
          rw [if_neg (by simp; omega), ← fillL_ok ps _ r h]
          have := fold_setL off (cellsL v) cells.toArray (by simpa [h1] using h2)
          rw [← cellsL_ok] at this
          simp only [← this]
def placeS (f : Nat → Option TyI) (fs : List (TypeId × Nat)) (i : Nat) : Option (Nat × Nat) := match fs[i]? with
  | some fd => match f fd.1 with
    | some j => some (fd.2, j.size)
    | none => none
  | none => none
def allKnown (f : Nat → Option TyI) : List (TypeId × Nat) → Bool
  | [] => true
  | fd :: fs => match f fd.1 with
    | some _ => allKnown f fs
    | none => false
def evBuild (f : Nat → Option TyI) (T : TypeId) (ps : List (Nat × Value)) : Option (List Value) := match f T with
  | none => none
  | some j => match j.zero with
    | none => none
    | some z => match j.desc with
      | .struct fs => match allKnown f fs with
        | true => fillL (placeS f fs) (cellsL z) ps
        | false => none
      | .array _ e => match f e with
        | some k => fillL (fun i => some (i * k.size, k.size)) (cellsL z) ps
        | none => none
      | _ => none
def o2s (t : Fr) : List (Nat × Operand) → Option (List (Nat × Value))
  | [] => some []
  | (i, x) :: xs => match o2 t x with
    | some v => match o2s t xs with
      | some vs => some ((i, v) :: vs)
      | none => none
    | none => none

section
variable {P : Program} {n : Nat} {M : Me} {Q : Post} {t : Fr} {L : List Ck} {ops : Array Oper} {s : Way} {i : Nat} {rest : List Oper}

theorem o2s_eval {p : Option Bool} {a : Act} (hf : Frm n t a) (hp : cb p = true) : ∀ {xs : List (Nat × Operand)} {vs : List (Nat × Value)}, o2s t xs = some vs → Imps p t (xs.map (·.2)) → xs.map (fun x => (x.1, a.eval x.2)) = vs
  | [], _, h, _ => by cases h; rfl
  | (k, x) :: xs, _, h, hi => by
    simp only [o2s] at h
    split at h
    · rename_i v hv
      split at h
      · rename_i vs hvs
        cases h
        have : a.eval x = v := by
          unfold o2 at hv
          split at hv
          · rename_i c u hu
            cases hv
            exact hf.ov hu (hi.get x (List.mem_cons_self ..) c _ hu hp)
          · cases hv
        simp [this, o2s_eval hf hp hvs hi.2]
      · cases h
    · cases h
theorem allKnown_places {E : Env P} : ∀ {gs : List Field}, allKnown E.f (gs.map fun f => (f.type, f.offset)) = true → ∃ pl, gs.mapM (fun f => (P.info? f.type).map fun i => (f.offset, i.size)) = some pl ∧ ∀ k, pl[k]? = placeS E.f (gs.map fun f => (f.type, f.offset)) k
  | [], _ => ⟨[], rfl, fun k => by simp [placeS]⟩
  | g :: gs, h => by
    simp only [List.map_cons, allKnown] at h
    split at h
    · rename_i j hj
      obtain ⟨pl, h1, h2⟩ := allKnown_places h
      obtain ⟨inf, hi, hs, _, _⟩ := E.info hj
      refine ⟨(g.offset, j.size) :: pl, by simp [List.mapM_cons, hi, h1, hs], fun k => ?_⟩
      cases k with
      | zero => simp [placeS, hj]
      | succ k => simpa [placeS] using h2 k
    · cases h
theorem evBuild_ok {E : Env P} {T : TypeId} {ps : List (Nat × Value)} {r : List Value} (h : evBuild E.f T ps = some r) : P.built T ps = some r.toArray := by
  unfold evBuild at h
  cases hT : E.f T with
  | none => rw [hT] at h; cases h
  | some j =>
    rw [hT] at h
    obtain ⟨g, hg, _, _, h0⟩ := E.info hT
    obtain ⟨d, hd, hu, _⟩ := E.und hT
    simp only at h
    split at h
    · cases h
    · rename_i z hz
      have hgz : g.zero = some z := h0.trans hz
      split at h
      · rename_i fs hfs
        split at h
        · rename_i hk
          rw [hfs] at hd
          cases d <;> simp only [td, reduceCtorEq, TD.struct.injEq] at hd
          rename_i gs _
          subst hd
          obtain ⟨pl, h1, h2⟩ := allKnown_places hk
          have : (pl[·]?) = placeS E.f (gs.toList.map fun f => (f.type, f.offset)) := funext h2
          simp [Program.built, hg, hu, hgz, h1, this, cellsL_ok]
          exact fillL_ok _ _ _ h
        · cases h
      · rename_i m e hfs
        split at h
        · rename_i k hk
          rw [hfs] at hd
          cases d <;> simp only [td, reduceCtorEq, TD.array.injEq] at hd
          obtain ⟨rfl, rfl⟩ := hd
          obtain ⟨ge, hge, hse, _, _⟩ := E.info hk
          simp [Program.built, hg, hu, hgz, hge, hse, fillL_ok _ _ _ h, cellsL_ok]
        · cases h
      · cases h
theorem yl_build {E : Env P} {p : Option Bool} {dst : Option Tmp} {T : TypeId} {ps : Array (Nat × Operand)} {ty : TypeId} {pos : String} {after : Array Edge} {guard : Option (Nat × Bool)} {vs : List (Nat × Value)} {r : List Value}
    (hvs : o2s t ps.toList = some vs) (h : evBuild E.f T vs = some r) (hi : Imps p t (ps.toList.map (·.2))) : Yl P n t L p ⟨dst, .build T ps, ty, pos, after, guard⟩ (.agg r.toArray) := fun hp M a w hf _ => by
  have hev := o2s_eval hf hp hvs hi
  unfold execOp
  refine run_v (run_build w T _ r.toArray ?_)
  rw [← evBuild_ok h, ← hev]
  simp

/-- division; the divisor is not 0 -/
theorem yl_quo {p c1 c2 : Option Bool} {dst : Option Tmp} {T T' : TypeId} {x y : Operand} {ty : TypeId} {pos : String} {after : Array Edge} {guard : Option (Nat × Bool)} {k : IntKind} {a b : Int}
    (hx : ov t x = some (c1, .int k a)) (hy : ov t y = some (c2, .int k b)) (h1 : cb p = true → cb c1 = true) (h2 : cb p = true → cb c2 = true) (hb : cb p = true → b ≠ 0) : Yl P n t L p ⟨dst, .binOp .quo T x y T', ty, pos, after, guard⟩ (.int k (k.wrap (a.tdiv b))) := fun hp M a' w hf _ => by
  unfold execOp
  refine run_v ?_
  rw [hf.ov hx (h1 hp), hf.ov hy (h2 hp)]
  simp [eqGuard, binOp, Op.intDiv, hb hp]
theorem yl_rem {p c1 c2 : Option Bool} {dst : Option Tmp} {T T' : TypeId} {x y : Operand} {ty : TypeId} {pos : String} {after : Array Edge} {guard : Option (Nat × Bool)} {k : IntKind} {a b : Int}
    (hx : ov t x = some (c1, .int k a)) (hy : ov t y = some (c2, .int k b)) (h1 : cb p = true → cb c1 = true) (h2 : cb p = true → cb c2 = true) (hb : cb p = true → b ≠ 0) : Yl P n t L p ⟨dst, .binOp .rem T x y T', ty, pos, after, guard⟩ (.int k (a.tmod b)) := fun hp M a' w hf _ => by
  unfold execOp
  refine run_v ?_
  rw [hf.ov hx (h1 hp), hf.ov hy (h2 hp)]
  simp [eqGuard, binOp, Op.intDiv, hb hp]
theorem yl_eq {p : Option Bool} {o : Oper} {v v' : Value} (h : Yl P n t L p o v) (he : cb p = true → v = v') : Yl P n t L p o v' := fun hp M a w hf hm => by rw [← he hp]; exact h hp M a w hf hm
theorem yl_true {p : Option Bool} {o : Oper} {b : Bool} (h : Yl P n t L p o (.bool b)) (hb : cb p = true → b = true) : Yl P n t L p o (.bool true) := yl_eq h fun hp => by rw [hb hp]
theorem yl_false {p : Option Bool} {o : Oper} {b : Bool} (h : Yl P n t L p o (.bool b)) (hb : cb p = true → b = false) : Yl P n t L p o (.bool false) := yl_eq h fun hp => by rw [hb hp]
/-- a condition that holds -/
theorem lx_gt {op : Op} {d j : Nat} {want : Bool} {ty : TypeId} {pos : String} {after : Array Edge} {p : Option Bool} {v : Value} (hg : gOf ops t ⟨some d, op, ty, pos, after, some (j, want)⟩ = some p) (hp : cb p = true) (hn : Nat.blt d n = true) (hy : Yl P n t (s.base L) none ⟨some d, op, ty, pos, after, some (j, want)⟩ v)
    (h : LX P n M ops s (i + 1) rest Q ((d, none, v) :: t) L) : LX P n M ops s i (⟨some d, op, ty, pos, after, some (j, want)⟩ :: rest) Q t L := fun hs a w hf hm => by
  have hw := (gOf_ok (ops := ops) hf hg).trans hp
  have hx := h hs _ w (hf.put1 (Nat.le_of_ble_eq_true hn) v) hm
  cases s with
  | seq =>
    refine wpList_step fun K hK => ?_
    rw [if_pos hw]
    unfold Oper.wp
    rw [hy rfl M a w hf hm]
    exact hK _ _ hx
  | any E L0 => exact ser_quiet hw (fun w' hS => hy rfl M a w' hf hS) hx
theorem yl_arith {op : BinOp} {p c1 c2 : Option Bool} {dst : Option Tmp} {T T' : TypeId} {x y : Operand} {ty : TypeId} {pos : String} {after : Array Edge} {guard : Option (Nat × Bool)} {a b e : Int}
    (hx : ov t x = some (c1, .int .i64 a)) (hy : ov t y = some (c2, .int .i64 b)) (h1 : cb p = true → cb c1 = true) (h2 : cb p = true → cb c2 = true) (he : cb p = true → -9223372036854775808 ≤ e ∧ e < 9223372036854775808) (ho : evInt op .i64 a b = some (.int .i64 (IntKind.i64.wrap e))) :
    Yl P n t L p ⟨dst, .binOp op T x y T', ty, pos, after, guard⟩ (.int .i64 e) := fun hp M a' w hf _ => by
  have e1 : IntKind.i64.wrap e = e := by have := he hp; rw [IntKind.wrap_i64]; omega
  rw [e1] at ho
  unfold execOp
  refine run_v ?_
  rw [hf.ov hx (h1 hp), hf.ov hy (h2 hp)]
  simp [eqGuard_ok, evInt_ok ho]
theorem yl_add {p c1 c2 : Option Bool} {dst : Option Tmp} {T T' : TypeId} {x y : Operand} {ty : TypeId} {pos : String} {after : Array Edge} {guard : Option (Nat × Bool)} {a b : Int}
    (hx : ov t x = some (c1, .int .i64 a)) (hy : ov t y = some (c2, .int .i64 b)) (h1 : cb p = true → cb c1 = true) (h2 : cb p = true → cb c2 = true) (he : cb p = true → -9223372036854775808 ≤ a + b ∧ a + b < 9223372036854775808) :
    Yl P n t L p ⟨dst, .binOp .add T x y T', ty, pos, after, guard⟩ (.int .i64 (a + b)) := yl_arith hx hy h1 h2 he rfl
theorem yl_sub {p c1 c2 : Option Bool} {dst : Option Tmp} {T T' : TypeId} {x y : Operand} {ty : TypeId} {pos : String} {after : Array Edge} {guard : Option (Nat × Bool)} {a b : Int}
    (hx : ov t x = some (c1, .int .i64 a)) (hy : ov t y = some (c2, .int .i64 b)) (h1 : cb p = true → cb c1 = true) (h2 : cb p = true → cb c2 = true) (he : cb p = true → -9223372036854775808 ≤ a - b ∧ a - b < 9223372036854775808) :
    Yl P n t L p ⟨dst, .binOp .sub T x y T', ty, pos, after, guard⟩ (.int .i64 (a - b)) := yl_arith hx hy h1 h2 he rfl
theorem yl_mul {p c1 c2 : Option Bool} {dst : Option Tmp} {T T' : TypeId} {x y : Operand} {ty : TypeId} {pos : String} {after : Array Edge} {guard : Option (Nat × Bool)} {a b : Int}
    (hx : ov t x = some (c1, .int .i64 a)) (hy : ov t y = some (c2, .int .i64 b)) (h1 : cb p = true → cb c1 = true) (h2 : cb p = true → cb c2 = true) (he : cb p = true → -9223372036854775808 ≤ a * b ∧ a * b < 9223372036854775808) :
    Yl P n t L p ⟨dst, .binOp .mul T x y T', ty, pos, after, guard⟩ (.int .i64 (a * b)) := yl_arith hx hy h1 h2 he rfl
theorem equal_of {T : TypeId} {xs ys : Array Value} {b : Bool} {w : World} (h : (binOp .eql T (.agg xs) (.agg ys)).run P w = .ok (.bool b) w) : (Op.equal T (.agg xs) (.agg ys)).run P w = .ok b w := by
  have h' : ((do pure (.bool (← Op.equal T (.agg xs) (.agg ys))) : Sem Value)).run P w = .ok (.bool b) w := h
  simp only [Sem.run_bind, Sem.run_pure] at h'
  cases hr : (Op.equal T (.agg xs) (.agg ys)).run P w with
  | ok c w' =>
    rw [hr] at h'
    simp only [Result.andThen_ok, Result.ok.injEq, Value.bool.injEq] at h'
    rw [h'.1, h'.2]
  | halt e w' => rw [hr] at h'; simp [Result.andThen] at h'
/-- two values of a struct type compared -/
theorem yl_eqs {p c1 c2 : Option Bool} {dst : Option Tmp} {T T' : TypeId} {x y : Operand} {ty : TypeId} {pos : String} {after : Array Edge} {guard : Option (Nat × Bool)} {xs ys : Array Value} {b : Bool}
    (hG : P.eqGuardType P.depth T = false) (hx : ov t x = some (c1, .agg xs)) (hy : ov t y = some (c2, .agg ys)) (hE : ∀ w, (binOp .eql T (.agg xs) (.agg ys)).run P w = .ok (.bool b) w) (h1 : cb p = true → cb c1 = true) (h2 : cb p = true → cb c2 = true) :
    Yl P n t L p ⟨dst, .binOp .eql T x y T', ty, pos, after, guard⟩ (.bool b) := fun hp M a w hf _ => by
  unfold execOp
  refine run_v ?_
  rw [hf.ov hx (h1 hp), hf.ov hy (h2 hp)]
  simp [eqGuard, hG, binOp, equal_of (hE w)]
theorem yl_nes {p c1 c2 : Option Bool} {dst : Option Tmp} {T T' : TypeId} {x y : Operand} {ty : TypeId} {pos : String} {after : Array Edge} {guard : Option (Nat × Bool)} {xs ys : Array Value} {b : Bool}
    (hG : P.eqGuardType P.depth T = false) (hx : ov t x = some (c1, .agg xs)) (hy : ov t y = some (c2, .agg ys)) (hE : ∀ w, (binOp .eql T (.agg xs) (.agg ys)).run P w = .ok (.bool b) w) (h1 : cb p = true → cb c1 = true) (h2 : cb p = true → cb c2 = true) :
    Yl P n t L p ⟨dst, .binOp .neq T x y T', ty, pos, after, guard⟩ (.bool (!b)) := fun hp M a w hf _ => by
  unfold execOp
  refine run_v ?_
  rw [hf.ov hx (h1 hp), hf.ov hy (h2 hp)]
  simp [eqGuard, hG, binOp, equal_of (hE w)]
/-- operands under a condition -/
def o2l (t : Fr) : List Operand → Option (List Value)
  | [] => some []
  | x :: xs => match o2 t x with
    | some v => match o2l t xs with
      | some vs => some (v :: vs)
      | none => none
    | none => none
theorem o2l_eval {p : Option Bool} {a : Act} (hf : Frm n t a) (hp : cb p = true) : ∀ {xs : List Operand} {vs : List Value}, o2l t xs = some vs → Imps p t xs → xs.map a.eval = vs
  | [], _, h, _ => by cases h; rfl
  | x :: xs, _, h, hi => by
    simp only [o2l] at h
    split at h
    · rename_i v hv
      split at h
      · rename_i vs hvs
        cases h
        have : a.eval x = v := by
          unfold o2 at hv
          split at hv
          · rename_i c u hu
            cases hv
            exact hf.ov hu (hi.get x (List.mem_cons_self ..) c _ hu hp)
          · cases hv
        simp [this, o2l_eval hf hp hvs hi.2]
      · cases h
    · cases h
/-- a call under a condition, of a function that changes nothing and yields one value -/
theorem lx_gcall {d : Nat} {fx : Operand} {xs : Array Operand} {ts : Array TypeId} {ty : TypeId} {pos : String} {after : Array Edge} {guard : Option (Nat × Bool)} {f : FuncId} {first captured : Array Value} {vs args : List Value} {Lin : List Ck} {p : Option Bool} {r : Value}
    (h : cb p = true → Fn P f args Lin [] fun v Lo => v = r ∧ Lo = []) (hin : ∀ w, Mem M L w → Mem ⟨w, []⟩ Lin w)
    (hl : s.loud i = true) (hg : gOf ops t ⟨some d, .call ⟨.value fx, xs, ts⟩, ty, pos, after, guard⟩ = some p) (hn : Nat.blt d n = true) (hx : o1 t fx = some (.func (.func f) first captured)) (hxs : o2l t xs.toList = some vs) (hi : Imps p t xs.toList) (hargs : first.toList ++ vs ++ captured.toList = args)
    (hk : LX P n M ops s (i + 1) rest Q ((d, p, r) :: t) L) : LX P n M ops s i (⟨some d, .call ⟨.value fx, xs, ts⟩, ty, pos, after, guard⟩ :: rest) Q t L := by
  cases hp : cb p with
  | false =>
    intro hs a w hf hm
    have hw := gOf_ok (ops := ops) hf hg
    have hx := hk hs _ w (hf.put (Nat.le_of_ble_eq_true hn) p r) hm
    rw [hp] at hw hx
    cases s with
    | seq =>
      refine wpList_step fun K hK => ?_
      rw [if_neg (by rw [hw]; simp)]
      exact hK _ _ hx
    | any E L0 => exact ser_unwanted hw hx
  | true =>
    refine lx_loud hl hg hp fun a w hf hm hs K hK => ?_
    have hev : xs.map a.eval = vs.toArray := by
      apply Array.ext'
      have := o2l_eval hf hp hxs hi
      simpa using this
    have hall : first ++ xs.map a.eval ++ captured = args.toArray := by
      apply Array.ext'
      rw [hev, ← hargs]
      simp
    unfold Oper.wp execOp
    simp only [resolve, hf.o1 hx, Deferred.ofValue, Sem.run_bind, Sem.run_pure, Result.andThen_ok, invoke, hall, (h hp).1 args.toArray w]
    show Calls P f args.toArray w _
    refine ((h hp).2 w (hin w hm)).mono ?_
    rintro e w' ⟨v, Lo, rfl, ⟨rfl, rfl⟩, hm', hmu⟩
    have := Mem.call (L1 := []) hm (by simp) hm' hmu
    show K (a.put (some d) v) w'
    have hput := hf.put (Nat.le_of_ble_eq_true hn) p v
    rw [hp] at hput
    exact hK _ _ _ _ hput this hs hk

/-- as 'lx_gcall', where the condition holds -/
theorem lx_gcallt {d : Nat} {fx : Operand} {xs : Array Operand} {ts : Array TypeId} {ty : TypeId} {pos : String} {after : Array Edge} {guard : Option (Nat × Bool)} {f : FuncId} {first captured : Array Value} {vs args : List Value} {Lin : List Ck} {p : Option Bool} {r : Value}
    (h : Fn P f args Lin [] fun v Lo => v = r ∧ Lo = []) (hin : ∀ w, Mem M L w → Mem ⟨w, []⟩ Lin w)
    (hl : s.loud i = true) (hg : gOf ops t ⟨some d, .call ⟨.value fx, xs, ts⟩, ty, pos, after, guard⟩ = some p) (hp : cb p = true) (hn : Nat.blt d n = true) (hx : o1 t fx = some (.func (.func f) first captured)) (hxs : o1s t xs.toList = some vs) (hargs : first.toList ++ vs ++ captured.toList = args)
    (hk : LX P n M ops s (i + 1) rest Q ((d, none, r) :: t) L) : LX P n M ops s i (⟨some d, .call ⟨.value fx, xs, ts⟩, ty, pos, after, guard⟩ :: rest) Q t L :=
  lx_call0 h hin hl hg hp rfl hn hx hxs hargs fun _ _ ⟨e1, e2⟩ => by subst e1 e2; exact hk

/-- a nil slice is an own row -/
theorem Gives.nilown (L : List Ck) (T : TypeId) (sz : Nat) : Gives L (.own none 0 0 T sz [] :: L) := fun M w h => by
  refine ⟨h.keep, fun c hc => ?_, fun c hc hm b hb => ?_, List.Pairwise.cons (fun c _ _ b hb => ?_) h.sep⟩
  · rcases List.mem_cons.1 hc with rfl | hc
    · exact World.ownsRow_nil w 0 T sz
    · exact h.all c hc
  · rcases List.mem_cons.1 hc with rfl | hc
    · cases hb
    · exact h.out c hc hm b hb
  · cases hb
/-- a whole block, as an own row -/
theorem Gives.blkown {L : List Ck} (k : Nat) {b m : Nat} {cs : List Value} {T : TypeId} {sz : Nat} (hk : L[k]? = some (.blk b cs T)) (hl : cs.length = m * sz) (hm : m ≤ maxLen) : Gives L (L.set k (.own (some ⟨b, 0, none⟩) m m T sz cs)) := fun M w h => by
  refine h.turn hk rfl (fun g hg => .inl (Option.some.inj hg)) rfl rfl rfl (Nat.le_refl _) (fun _ _ _ => rfl) ?_
  have hb : w.heap[b]? = some (.cells cs.toArray T (0, 0)) := h.get hk
  exact ⟨hl, .inr ⟨b, m, cs.toArray, rfl, Nat.zero_le _, hb, Nat.le_refl _, hm, by simpa using hl, by simp [← hl]⟩⟩

/-- append to an own row -/
theorem lx_append {E : Env P} {d : Nat} {x y : Operand} {T : TypeId} {ty : TypeId} {pos : String} {after : Array Edge} {guard : Option (Nat × Bool)} {p : Option Bool} (k : Nat) {A A2 : Option Addr} {q c m c2 sz : Nat} {e : TypeId} {j : TyI} {z : Value} {xs news : List Value}
    (hl : s.loud i = true) (hg : gOf ops t ⟨some d, .call ⟨.builtin .append, #[x, y], #[T, T]⟩, ty, pos, after, guard⟩ = some p) (hp : cb p = true) (hn : Nat.blt d n = true)
    (hx : o1 t x = some (.slice A q c)) (hy : o1 t y = some (.slice A2 m c2)) (hT : tyOf E.f T = .slice e) (he : E.f e = some j) (hz : j.zero = some z) (hzs : (cellsL z).length = j.size) (hk : L[k]? = some (.own A q c e sz xs)) (hsz : j.size = sz) (hpos : Nat.blt 0 sz = true)
    (hr : ∀ w, Mem M L w → Row w w.heap.size sz A2 m news) (h1 : ∀ u ∈ news, u.oneCell' = true) (h63 : q + m ≤ maxLen) (hbytes : (q + m) * j.bytes ≤ 140737488355328) (hgs : ∀ A' c', s.gives L → s.gives (L.set k (.own A' (q + m) c' e sz (xs ++ news))))
    (h : ∀ A' c', LX P n M ops s (i + 1) rest Q ((d, none, .slice A' (q + m) c') :: t) (L.set k (.own A' (q + m) c' e sz (xs ++ news)))) : LX P n M ops s i (⟨some d, .call ⟨.builtin .append, #[x, y], #[T, T]⟩, ty, pos, after, guard⟩ :: rest) Q t L :=
  lx_loud hl hg hp fun a w hf hm hs K hK => by
    obtain ⟨g, hgi, g1, g2, g3⟩ := E.info he
    have hown : w.ownsRow 0 e sz (.slice A q c) q xs := hm.get hk
    refine wp_append_row (P := P) w x y T rfl 0 e g z sz j.bytes (tyOf_slice hT) hgi (g3.trans hz) (g1.trans hsz) g2 (by rw [cellsL_ok]; simp [hzs, hsz]) (Nat.le_of_ble_eq_true hpos) (.slice A q c) q xs (hf.o1 hx) hown w.heap.size A2 m c2 news (hf.o1 hy) (hr w hm) h1 h63 hbytes (Nat.zero_le _) fun v' w' hgr => ?_
    obtain ⟨A', c', rfl⟩ := own_shape hgr.own
    refine hK _ _ _ _ (hf.put1 (Nat.le_of_ble_eq_true hn) _) (hm.turn (c' := .own A' (q + m) c' e sz (xs ++ news)) hk rfl (fun b hb => ?_) hgr.grown.os hgr.grown.tape hgr.grown.output hgr.grown.size (fun b hb hne => ?_) hgr.own) (hgs A' c' hs) (h A' c')
    · have := hgr.at_
      cases A' with
      | none => cases hb
      | some a' =>
        cases hb
        rcases this with h5 | h5
        · left
          cases A with
          | none => cases h5
          | some a0 => exact h5.symm
        · right
          simp only [Value.ownBlock, Option.some.injEq] at h5
          show w.heap.size ≤ a'.block
          omega
    · refine hgr.grown.block b hb fun e5 => hne ?_
      cases A with
      | none => cases e5
      | some a0 => exact e5.symm
end
end Go.Proofs.YtmochicneilhhaaGreat
namespace Go.Proofs.YtmochicneilhhaaGreat
open Go.RowKit
section
variable {P : Program} {n : Nat} {M : Me} {Q : Post} {t : Fr} {L : List Ck} {ops : Array Oper} {s : Way} {i : Nat} {rest : List Oper}
theorem take_mid (l v : List Value) (c N : Nat) (h1 : N ≤ l.length) (h2 : c + v.length ≤ N) : (l.take (c + 0) ++ v ++ l.drop (c + 0 + v.length)).take N = (l.take N).take c ++ v ++ (l.take N).drop (c + v.length) := by
  rw [Nat.add_zero, List.take_append, List.take_of_length_le (by simp; omega), List.drop_take, List.take_take, Nat.min_eq_left (by omega)]
  congr 2
  simp
  omega
theorem Mem.storeI {E : Env P} {w : World} {k m cap sz c : Nat} {A : Option Addr} {T T' : TypeId} {xs : List Value} {j : TyI} {v : Value} (hm : Mem M L w) (hT : E.f T = some j) (hk : L[k]? = some (.own A m cap T' sz xs)) (hv : (cellsL v).length = j.size) (hpos : 0 < j.size)
    (hfit : c + j.size ≤ xs.length) (h1 : (cellsL v).all Value.oneCell' = true) : ∃ a, (A.map fun a => a.add c) = some a ∧ ∃ w', (Go.storeVar T a v).run P w = .ok () w' ∧ Mem M (L.set k (.own A m cap T' sz (setL xs c (cellsL v)))) w' := by
  have hs := E.size hT w
  have hown : w.ownsRow 0 T' sz (.slice A m cap) m xs := hm.get hk
  obtain ⟨hl, ho⟩ := hown
  rcases ho with ⟨hv0, hm0⟩ | ⟨g, cap', cur, hv', _, hg, hmc, hcm, hcs, htake⟩
  · subst hm0
    rw [Nat.zero_mul] at hl
    omega
  · simp only [Value.slice.injEq, true_and] at hv'
    obtain ⟨rfl, rfl⟩ := hv'
    have hxs : xs.length ≤ cur.size := by rw [← htake]; simp; omega
    refine ⟨⟨g, c, none⟩, ?_, ?_⟩
    · simp only [Option.map_some, add_at, Nat.zero_add]
    have hrun := run_storeCells_at P g c T' (cellsL v) 0 cur w hg (by omega) (fun u hu => List.all_eq_true.1 h1 u hu)
    have hsz : (w.setRow g (cur.toList.take (c + 0) ++ cellsL v ++ cur.toList.drop (c + 0 + (cellsL v).length)).toArray).heap.size = w.heap.size := by simp [World.setRow]
    refine ⟨w.setRow g (cur.toList.take (c + 0) ++ cellsL v ++ cur.toList.drop (c + 0 + (cellsL v).length)).toArray, ?_, hm.turn (c' := .own (some ⟨g, 0, none⟩) m cap T' sz (setL xs c (cellsL v))) hk rfl (fun g hg => .inl hg) rfl rfl rfl (by rw [hsz]; exact Nat.le_refl _) (fun b _ hne => setRow_other _ _ _ _ (fun e => hne (congrArg some e.symm))) ?_⟩
    · unfold Go.storeVar
      simp only [cellsL_ok, List.size_toArray, Sem.run_bind, hs, Result.andThen_ok, hv, ne_eq, not_true_eq_false, if_false]
      simpa [hv] using hrun
    · refine ⟨by rw [setL_length _ _ _ (by omega)]; exact hl, .inr ⟨g, cap, _, rfl, Nat.zero_le _, setRow_heap w g cur _ T' (0, 0) hg, hmc, hcm, ?_, ?_⟩⟩
      · simp only [List.size_toArray, List.length_append, List.length_take, List.length_drop, Array.length_toList]
        omega
      · rw [setL_eq _ _ _ (by omega), ← htake]
        exact take_mid _ _ _ _ (by simp; omega) (by omega)
theorem lx_storeI {E : Env P} {T : TypeId} {x y : Operand} {ty : TypeId} {pos : String} {after : Array Edge} {guard : Option (Nat × Bool)} {v : Value} (k : Nat) {m cap sz c : Nat} {A : Option Addr} {T' : TypeId} {xs : List Value} {j : TyI} (hl : s.loud i = true) {p : Option Bool} (hg : gOf ops t ⟨none, .store T x y, ty, pos, after, guard⟩ = some p) (hp : cb p = true)
    (hx : o1 t x = some (atI A c)) (hy : o1 t y = some v) (hT : E.f T = some j) (hk : L[k]? = some (.own A m cap T' sz xs)) (hv : (cellsL v).length = j.size) (hpos : Nat.blt 0 j.size = true) (hfit : c + j.size ≤ xs.length) (h1 : (cellsL v).all Value.oneCell' = true)
    (hgs : s.gives L → s.gives (L.set k (.own A m cap T' sz (setL xs c (cellsL v)))))
    (h : LX P n M ops s (i + 1) rest Q t (L.set k (.own A m cap T' sz (setL xs c (cellsL v))))) : LX P n M ops s i (⟨none, .store T x y, ty, pos, after, guard⟩ :: rest) Q t L :=
  lx_loud hl hg hp fun a w hf hm hs K hK => by
    obtain ⟨ad, ha, w', hr, hm'⟩ := hm.storeI hT hk hv (Nat.le_of_ble_eq_true hpos) hfit h1
    unfold Oper.wp execOp
    simp only [hf.o1 hx, hf.o1 hy, atI, ha, Instr.storeAt, Instr.sureAddr, Sem.run_bind, Sem.run_pure, Result.andThen_ok, hr]
    exact hK _ _ _ _ hf hm' (hgs hs) h
end
end Go.Proofs.YtmochicneilhhaaGreat
