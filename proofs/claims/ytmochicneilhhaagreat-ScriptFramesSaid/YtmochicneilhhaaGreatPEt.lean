/- More rules: what an operation that was passed over guards; ways that meet again. More rules: function values. More rules: functions that the model itself answers; what a call is handed. -/
import Derived.Test.YtmochicneilhhaaGreatPSm
namespace Go.Proofs.YtmochicneilhhaaGreat
open Go.RowKit
section
variable {P : Program} {n : Nat} {M : Me} {Q : Post} {t : Fr} {L : List Ck} {ops : Array Oper} {s : Way} {i : Nat} {rest : List Oper}
/-- the guard itself was passed over -/
theorem lx_notu {o : Oper} {d j g : Nat} {want : Bool} (hg : o.guard = some (j, want)) (hj : (ops[j]?).bind (·.dst) = some g) (hu : lk t g = some (none, undef)) (hd : o.dst = some d) (hn : Nat.blt d n = true)
    (h : LX P n M ops s (i + 1) rest Q ((d, none, undef) :: t) L) : LX P n M ops s i (o :: rest) Q t L := fun hs a w hf hm => by
  have hw : Region.wanted o (yielded ops a.tmps) = false := by
    have hy : yielded ops a.tmps j = none := by
      unfold yielded
      simp only [hj, Option.bind_some, hf.slot g none _ hu]
      rfl
    unfold Region.wanted
    simp only [hg, hy]
    rfl
  have hx := h hs _ w (hf.put (Nat.le_of_ble_eq_true hn) none undef) hm
  cases s with
  | seq =>
    refine wpList_step fun K hK => ?_
    rw [if_neg (by rw [hw]; simp), hd]
    exact hK _ _ hx
  | any E L0 => exact ser_unwanted hw (by rw [hd]; exact hx)
/-- ways that meet again: as 'cx_seq_to', where the sequence has been entered -/
theorem cx_to {x y : Code} {α : Type} (S : α → Fr) (m : α → List Ck) (h : CX P n M x (thenQ (fun t' L' => ∃ z, Sub (S z) t' ∧ Gives L' (m z)) Q) t L) (hy : ∀ z, CX P n M y Q (S z) (m z)) : CX P n M x (thenQ (fun t' L' => CX P n M y Q t' L') Q) t L := by
  refine cx_mono (fun e t' L' hq => ?_) h
  cases e <;> first
    | exact hq
    | (obtain ⟨z, hs, hg⟩ := hq
       exact cx_weak (fun a hf => hs.frm hf) hg (hy z))
theorem slot_bool {c : Option Bool} {a b : Bool} (h : a = b) : some (c, Value.bool a) = some (c, Value.bool b) := by rw [h]
end
end Go.Proofs.YtmochicneilhhaaGreat
namespace Go.Proofs.YtmochicneilhhaaGreat
open Go.RowKit
section
variable {P : Program} {n : Nat} {M : Me} {Q : Post} {t : Fr} {L : List Ck} {ops : Array Oper} {s : Way} {i : Nat} {rest : List Oper}
/-- a function value -/
theorem yl_makeFunc {p : Option Bool} {dst : Option Tmp} {f : FuncId} {first captured : Array Operand} {ty : TypeId} {pos : String} {after : Array Edge} {guard : Option (Nat × Bool)} {vs us : List Value} (h1 : o2l t first.toList = some vs) (h2 : o2l t captured.toList = some us) (hi1 : Imps p t first.toList) (hi2 : Imps p t captured.toList) :
    Yl P n t L p ⟨dst, .makeFunc (.func f) first captured, ty, pos, after, guard⟩ (.func (.func f) vs.toArray us.toArray) := fun hp M a w hf hm => by
  have e1 : first.map a.eval = vs.toArray := by
    apply Array.ext'
    have := o2l_eval hf hp h1 hi1
    simpa using this
  have e2 : captured.map a.eval = us.toArray := by
    apply Array.ext'
    have := o2l_eval hf hp h2 hi2
    simpa using this
  unfold execOp
  refine run_v ?_
  rw [e1, e2]
  rfl
/-- as 'lx_gcall', where the function value itself is there under a condition -/
theorem lx_vcall {d : Nat} {fx : Operand} {xs : Array Operand} {ts : Array TypeId} {ty : TypeId} {pos : String} {after : Array Edge} {guard : Option (Nat × Bool)} {f : FuncId} {first captured : Array Value} {vs args : List Value} {Lin : List Ck} {p c : Option Bool} {r : Value}
    (h : cb p = true → Fn P f args Lin [] fun v Lo => v = r ∧ Lo = []) (hin : ∀ w, Mem M L w → Mem ⟨w, []⟩ Lin w)
    (hl : s.loud i = true) (hg : gOf ops t ⟨some d, .call ⟨.value fx, xs, ts⟩, ty, pos, after, guard⟩ = some p) (hn : Nat.blt d n = true) (hx : ov t fx = some (c, .func (.func f) first captured)) (hc : cb p = true → cb c = true) (hxs : o2l t xs.toList = some vs) (hi : Imps p t xs.toList) (hargs : first.toList ++ vs ++ captured.toList = args)
    (hk : LX P n M ops s (i + 1) rest Q ((d, p, r) :: t) L) : LX P n M ops s i (⟨some d, .call ⟨.value fx, xs, ts⟩, ty, pos, after, guard⟩ :: rest) Q t L := by
  cases hp : cb p with
  | false =>
    intro hs a w hf hm
    have hw := gOf_ok (ops := ops) hf hg
    have hx := hk hs _ w (hf.put (Nat.le_of_ble_eq_true hn) p r) hm
    rw [hp] at hw hx
    cases s with
    | seq =>
      refine wpList_step fun K hK => ?_
      rw [if_neg (by rw [hw]; simp)]
      exact hK _ _ hx
    | any E L0 => exact ser_unwanted hw hx
  | true =>
    refine lx_loud hl hg hp fun a w hf hm hs K hK => ?_
    have hev : xs.map a.eval = vs.toArray := by
      apply Array.ext'
      have := o2l_eval hf hp hxs hi
      simpa using this
    have hall : first ++ xs.map a.eval ++ captured = args.toArray := by
      apply Array.ext'
      rw [hev, ← hargs]
      simp
    unfold Oper.wp execOp
    simp only [resolve, hf.ov hx (hc hp), Deferred.ofValue, Sem.run_bind, Sem.run_pure, Result.andThen_ok, invoke, hall, (h hp).1 args.toArray w]
    show Calls P f args.toArray w _
    refine ((h hp).2 w (hin w hm)).mono ?_
    rintro e w' ⟨v, Lo, rfl, ⟨rfl, rfl⟩, hm', hmu⟩
    have := Mem.call (L1 := []) hm (by simp) hm' hmu
    show K (a.put (some d) v) w'
    have hput := hf.put (Nat.le_of_ble_eq_true hn) p v
    rw [hp] at hput
    exact hK _ _ _ _ hput this hs hk
end
end Go.Proofs.YtmochicneilhhaaGreat
namespace Go.Proofs.YtmochicneilhhaaGreat
open Go.RowKit
section
variable {P : Program} {n : Nat} {M : Me} {Q : Post} {t : Fr} {L : List Ck} {ops : Array Oper} {s : Way} {i : Nat} {rest : List Oper}
/-- the chunks of those places, as a call is handed them -/
theorem Mem.enter {w : World} (h : Mem M L w) (ks : List Nat) (hn : ks.Nodup) {D : List Nat} {L' : List Ck} (he : pickL L ks = L') (hD : ∀ c ∈ L', c.mut_ = true → ∀ b, c.on b → b ∈ D) : Mem ⟨w, D⟩ L' w := by
  have hp := h.pick ks hn
  rw [he] at hp
  exact ⟨Keep.refl w D, hp.all, fun c hc hm b hb => .inl (hD c hc hm b hb), hp.sep⟩
theorem Gives.app {L L' : List Ck} (h : Gives L L') {M : Me} {w : World} (hm : Mem M L w) : Mem M L' w := h M w hm
theorem Gives.put {L L' : List Ck} (h : ∀ M w, Mem M L w → Mem M L' w) : Gives L L' := h
/-- what memory says, as a plain fact -/
theorem lx_fact {φ : Prop} (h : ∀ w, Mem M L w → φ) (hk : φ → LX P n M ops s i rest Q t L) : LX P n M ops s i rest Q t L := fun hs a w hf hm => hk (h w hm) hs a w hf hm
theorem cx_fact {c : Code} {φ : Prop} (h : ∀ w, Mem M L w → φ) (hk : φ → CX P n M c Q t L) : CX P n M c Q t L := fun a w hf hm => hk (h w hm) a w hf hm
theorem Mem.again {w : World} (h : Mem M L w) (D : List Nat) (hD : ∀ c ∈ L, c.mut_ = true → ∀ b, c.on b → b ∈ D) : Mem ⟨w, D⟩ L w :=
  ⟨Keep.refl w D, h.all, fun c hc hm b hb => .inl (hD c hc hm b hb), h.sep⟩
theorem lx_ext {dst : Option Tmp} {fx : Operand} {xs : Array Operand} {ts : Array TypeId} {ty : TypeId} {pos : String} {after : Array Edge} {guard : Option (Nat × Bool)} {d : Nat} {f : FuncId} {first captured : Array Value} {vs args : List Value} {v : Value} {L' : List Ck}
    (h : ∀ M w, Mem M L w → ∃ w', (callFunc f args.toArray).run P w = .ok (.value v) w' ∧ Mem M L' w') (hgs : s.gives L → s.gives L')
    (hl : s.loud i = true) {p : Option Bool} (hg : gOf ops t ⟨dst, .call ⟨.value fx, xs, ts⟩, ty, pos, after, guard⟩ = some p) (hp : cb p = true) (hd : dst = some d) (hn : Nat.blt d n = true) (hx : o1 t fx = some (.func (.func f) first captured)) (hxs : o1s t xs.toList = some vs) (hargs : first.toList ++ vs ++ captured.toList = args)
    (hk : LX P n M ops s (i + 1) rest Q ((d, none, v) :: t) L') : LX P n M ops s i (⟨dst, .call ⟨.value fx, xs, ts⟩, ty, pos, after, guard⟩ :: rest) Q t L :=
  lx_loud hl hg hp fun a w hf hm hs K hK => by
    have hev : xs.map a.eval = vs.toArray := by
      apply Array.ext'
      have := o1s_eval hf hxs
      simpa using this
    have hall : first ++ xs.map a.eval ++ captured = args.toArray := by
      apply Array.ext'
      rw [hev, ← hargs]
      simp
    obtain ⟨w', hr, hm'⟩ := h M w hm
    unfold Oper.wp execOp
    simp only [resolve, hf.o1 hx, Deferred.ofValue, Sem.run_bind, Sem.run_pure, Result.andThen_ok, invoke, hall, hr]
    show K (a.put dst v) w'
    rw [hd]
    exact hK _ _ _ _ (hf.put1 (Nat.le_of_ble_eq_true hn) v) hm' (hgs hs) hk
/-- one that changes nothing -/
theorem lx_ext0 {dst : Option Tmp} {fx : Operand} {xs : Array Operand} {ts : Array TypeId} {ty : TypeId} {pos : String} {after : Array Edge} {guard : Option (Nat × Bool)} {d : Nat} {f : FuncId} {first captured : Array Value} {vs args : List Value} {v : Value}
    (h : ∀ M w, Mem M L w → (callFunc f args.toArray).run P w = .ok (.value v) w)
    (hl : s.loud i = true) {p : Option Bool} (hg : gOf ops t ⟨dst, .call ⟨.value fx, xs, ts⟩, ty, pos, after, guard⟩ = some p) (hp : cb p = true) (hd : dst = some d) (hn : Nat.blt d n = true) (hx : o1 t fx = some (.func (.func f) first captured)) (hxs : o1s t xs.toList = some vs) (hargs : first.toList ++ vs ++ captured.toList = args)
    (hk : LX P n M ops s (i + 1) rest Q ((d, none, v) :: t) L) : LX P n M ops s i (⟨dst, .call ⟨.value fx, xs, ts⟩, ty, pos, after, guard⟩ :: rest) Q t L :=
  lx_ext (fun M w hm => ⟨w, h M w hm, hm⟩) (fun hs => hs) hl hg hp hd hn hx hxs hargs hk
/-- a block's cells, as they are read -/
theorem ro_cell {w : World} {k b m off : Nat} {cs : List Value} {v : Value} (hm : Mem M L w) (hk : L[k]? = some (.ro (some ⟨b, 0, none⟩) m 1 cs)) (hv : cs[off]? = some v) : w.cell? ⟨b, off, none⟩ = some v := by
  have hr : Row w w.heap.size 1 (some ⟨b, 0, none⟩) m cs := hm.get hk
  have hlt : off < cs.length := (List.getElem?_eq_some_iff.1 hv).1
  have hl := hr.1
  obtain ⟨g, o, he, _, hc⟩ := hr.2 (by omega)
  cases he
  have := hc off v hv
  simpa using this
theorem Mem.loadRo {E : Env P} {w : World} {k b m off : Nat} {cs : List Value} {T : TypeId} {j : TyI} {v : Value} (hm : Mem M L w) (hT : E.f T = some j) (hk : L[k]? = some (.ro (some ⟨b, 0, none⟩) m 1 cs)) (hv : evPart E.f T cs off = some v)
    (hin : isAggD j.desc = true → off + j.size ≤ cs.length) : (Go.loadVar T ⟨b, off, none⟩).run P w = .ok v w := by
  have hu := isAgg_run hT w
  have hs := E.size hT w
  unfold evPart at hv
  simp only [hT] at hv
  unfold Go.loadVar
  cases ha : isAggD j.desc
  · simp only [ha] at hv hu
    have hc := ro_cell hm hk hv
    simp [hu, load, Sem.run, hc]
  · simp only [ha] at hv hin hu
    cases hv
    have hl : (List.take j.size (List.drop off cs)).length = j.size := by have := hin trivial; simp at this ⊢; omega
    have hcells := run_loadCells_list (P := P) w ⟨b, off, none⟩ (List.take j.size (List.drop off cs)) (fun q u hu => by
      rw [List.getElem?_take] at hu
      split at hu
      · rw [List.getElem?_drop] at hu
        have := ro_cell (off := off + q) hm hk hu
        rw [add_at]
        exact this
      · cases hu)
    rw [hl] at hcells
    simp [hu, hs, hcells]
theorem yl_loadR {E : Env P} {p c : Option Bool} {dst : Option Tmp} {T : TypeId} {x : Operand} {ty : TypeId} {pos : String} {after : Array Edge} {guard : Option (Nat × Bool)} {b off : Nat} {v : Value} (k : Nat) {m : Nat} {cs : List Value} {j : TyI} (hx : ov t x = some (c, .pointer (some ⟨b, off, none⟩))) (hT : E.f T = some j) (hk : L[k]? = some (.ro (some ⟨b, 0, none⟩) m 1 cs))
    (hin : Nat.ble (off + j.size) cs.length = true) (hv : evPart E.f T cs off = some v) (hc : cb p = true → cb c = true) : Yl P n t L p ⟨dst, .load T x, ty, pos, after, guard⟩ v := fun hp M a w hf hm => by
  unfold execOp
  refine run_v ?_
  rw [hf.ov hx (hc hp)]
  simp [Instr.loadAt, Instr.sureAddr, hm.loadRo hT hk hv (fun _ => Nat.le_of_ble_eq_true hin)]
/-- a cell at a place that is reckoned -/
theorem yl_loadV {E : Env P} {p c : Option Bool} {dst : Option Tmp} {T : TypeId} {x : Operand} {ty : TypeId} {pos : String} {after : Array Edge} {guard : Option (Nat × Bool)} {b off : Nat} {v : Value} (k : Nat) {cs : List Value} {T' : TypeId} {j : TyI} (hx : ov t x = some (c, .pointer (some ⟨b, off, none⟩))) (hT : E.f T = some j) (hk : L[k]? = some (.blk b cs T'))
    (ha : isAggD j.desc = false) (hv : cb p = true → cs[off]? = some v) (hc : cb p = true → cb c = true) : Yl P n t L p ⟨dst, .load T x, ty, pos, after, guard⟩ v := fun hp M a w hf hm => by
  unfold execOp
  refine run_v ?_
  rw [hf.ov hx (hc hp)]
  have hv' : evPart E.f T cs off = some v := by simp only [evPart, hT, ha]; exact hv hp
  simp [Instr.loadAt, Instr.sureAddr, hm.loadVar hT hk hv' (fun h => by rw [ha] at h; cases h)]
theorem yl_loadVR {E : Env P} {p c : Option Bool} {dst : Option Tmp} {T : TypeId} {x : Operand} {ty : TypeId} {pos : String} {after : Array Edge} {guard : Option (Nat × Bool)} {b off : Nat} {v : Value} (k : Nat) {m : Nat} {cs : List Value} {j : TyI} (hx : ov t x = some (c, .pointer (some ⟨b, off, none⟩))) (hT : E.f T = some j) (hk : L[k]? = some (.ro (some ⟨b, 0, none⟩) m 1 cs))
    (ha : isAggD j.desc = false) (hv : cb p = true → cs[off]? = some v) (hc : cb p = true → cb c = true) : Yl P n t L p ⟨dst, .load T x, ty, pos, after, guard⟩ v := fun hp M a w hf hm => by
  unfold execOp
  refine run_v ?_
  rw [hf.ov hx (hc hp)]
  have hv' : evPart E.f T cs off = some v := by simp only [evPart, hT, ha]; exact hv hp
  simp [Instr.loadAt, Instr.sureAddr, hm.loadRo hT hk hv' (fun h => by rw [ha] at h; cases h)]
/-- an element of an array in memory -/
theorem yl_indexP {E : Env P} {p c1 c2 : Option Bool} {dst : Option Tmp} {T : TypeId} {x y : Operand} {ty : TypeId} {pos : String} {after : Array Edge} {guard : Option (Nat × Bool)} {b off m : Nat} {κ : IntKind} {iv : Int} {e : TypeId} {j : TyI}
    (hx : ov t x = some (c1, .pointer (some ⟨b, off, none⟩))) (hy : ov t y = some (c2, .int κ iv)) (hT : tyOf E.f T = .array m e) (he : E.f e = some j)
    (h1 : cb p = true → cb c1 = true) (h2 : cb p = true → cb c2 = true) (hb : cb p = true → 0 ≤ iv ∧ iv < m) : Yl P n t L p ⟨dst, .indexAddr T x y, ty, pos, after, guard⟩ (.pointer (some ⟨b, off + mulI iv.toNat j.size, none⟩)) := fun hp M a w hf hm => by
  have hu := run_underlying (P := P) (tyOf_array hT) w
  have hs := E.size he w
  obtain ⟨hb1, hb2⟩ := hb hp
  unfold execOp
  refine run_v ?_
  rw [hf.ov hx (h1 hp), hf.ov hy (h2 hp)]
  simp [Instr.indexAt, asIntOf, Instr.sureAddr, hu, hb1, hb2, hs, mulI_eq, add_at]
/-- the whole of an array in memory, as a slice -/
theorem yl_sliceP {E : Env P} {p c1 : Option Bool} {dst : Option Tmp} {T : TypeId} {x : Operand} {ty : TypeId} {pos : String} {after : Array Edge} {guard : Option (Nat × Bool)} {b off m : Nat} {e : TypeId} {j : TyI}
    (hx : ov t x = some (c1, .pointer (some ⟨b, off, none⟩))) (hT : tyOf E.f T = .array m e) (he : E.f e = some j) (h1 : cb p = true → cb c1 = true) :
    Yl P n t L p ⟨dst, .slice T x none none none, ty, pos, after, guard⟩ (.slice (some ⟨b, off, none⟩) m m) := fun hp M a w hf hm => by
  have hu := run_underlying (P := P) (tyOf_array hT) w
  have hs := E.size he w
  have ha : ∀ a : Addr, a.add 0 = a := fun _ => rfl
  unfold execOp
  refine run_v ?_
  simp [hf.ov hx (h1 hp), Instr.sliceAt, Instr.sliceBounds, Instr.sureAddr, hu, hs, ha]
/-- a store at a place that is reckoned -/
theorem lx_storeV {E : Env P} {T : TypeId} {x y : Operand} {ty : TypeId} {pos : String} {after : Array Edge} {guard : Option (Nat × Bool)} {b off : Nat} {v : Value} (k : Nat) {cs : List Value} {T' : TypeId} {j : TyI} (hl : s.loud i = true) {p : Option Bool} (hg : gOf ops t ⟨none, .store T x y, ty, pos, after, guard⟩ = some p) (hp : cb p = true)
    (hx : o1 t x = some (.pointer (some ⟨b, off, none⟩))) (hy : o1 t y = some v) (hT : E.f T = some j) (hk : L[k]? = some (.blk b cs T')) (hv : (cellsL v).length = j.size) (hfit : off + j.size ≤ cs.length) (h1 : (cellsL v).all Value.oneCell' = true)
    (hgs : s.gives L → s.gives (L.set k (.blk b (setL cs off (cellsL v)) T')))
    (h : LX P n M ops s (i + 1) rest Q t (L.set k (.blk b (setL cs off (cellsL v)) T'))) : LX P n M ops s i (⟨none, .store T x y, ty, pos, after, guard⟩ :: rest) Q t L :=
  lx_store (E := E) k hl hg hp hx hy hT hk hv hfit h1 hgs h
/-- a store of one cell -/
theorem Mem.store1 {w : World} {k b off : Nat} {cs : List Value} {T : TypeId} (h : Mem M L w) (hk : L[k]? = some (.blk b cs T)) (v : Value) : Mem M (L.set k (.blk b (cs.set off v) T)) (w.setCell ⟨b, off, none⟩ v) := h.store hk v
end
end Go.Proofs.YtmochicneilhhaaGreat
