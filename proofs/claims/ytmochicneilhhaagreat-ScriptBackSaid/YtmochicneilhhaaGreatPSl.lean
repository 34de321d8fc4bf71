/- The walk's steps at slices and composite literals. -/
import Derived.Test.YtmochicneilhhaaGreatPFn
import Derived.Great.BuildSlice
namespace Go.Proofs.YtmochicneilhhaaGreat
open Go.RowKit

section
variable {P : Program} {n : Nat} {M : Me} {Q : Post} {t : Fr} {L : List Ck} {ops : Array Oper} {s : Way} {i : Nat} {rest : List Oper}

theorem in_ro {w : World} {Lin : List Ck} {A : Option Addr} {m sz : Nat} {xs : List Value} (h : Row w w.heap.size sz A m xs) (hin : Mem ⟨w, []⟩ Lin w) (hro : Lin.all (fun c => !c.mut_) = true) : Mem ⟨w, []⟩ (.ro A m sz xs :: Lin) w := by
  refine ⟨hin.keep, fun c hc => ?_, fun c hc hm => ?_, List.Pairwise.cons (fun c hc hm => ?_) hin.sep⟩
  · rcases List.mem_cons.1 hc with rfl | hc
    · exact h
    · exact hin.all c hc
  · rcases List.mem_cons.1 hc with rfl | hc
    · cases hm
    · exact hin.out c hc hm
  · have := List.all_eq_true.1 hro c hc
    rcases hm with hm | hm
    · cases hm
    · rw [hm] at this; cases this
/-- the row that a chunk shows -/
theorem row_ro {w : World} (k : Nat) {A : Option Addr} {m sz : Nat} {xs : List Value} (hk : L[k]? = some (.ro A m sz xs)) (hm : Mem M L w) : Row w w.heap.size sz A m xs := hm.get hk
theorem row_own {w : World} (k : Nat) {A : Option Addr} {m c : Nat} {T : TypeId} {sz : Nat} {xs : List Value} (hk : L[k]? = some (.own A m c T sz xs)) (hm : Mem M L w) : Row w w.heap.size sz A m xs := row_of_own (show w.ownsRow 0 T sz (.slice A m c) m xs from hm.get hk)
theorem row_blk {w : World} (k : Nat) {b m sz : Nat} {T : TypeId} {cs : List Value} (hk : L[k]? = some (.blk b cs T)) (hl : cs.length = m * sz) (hm : Mem M L w) : Row w w.heap.size sz (some ⟨b, 0, none⟩) m cs := by
  have hb : Blk w b cs.toArray T := hm.get hk
  refine ⟨hl, fun _ => ⟨b, 0, rfl, hb.lt, fun j u hu => ?_⟩⟩
  rw [hb.cell]
  simpa using hu

/-- the place of a cell of a row -/
def atI (A : Option Addr) (c : Nat) : Value := .pointer (A.map fun a => a.add c)
def mulI (q : Nat) : Nat → Nat
  | 1 => q
  | sz => q * sz
theorem mulI_eq (q sz : Nat) : mulI q sz = q * sz := by
  unfold mulI
  split
  · simp
  · rfl
theorem add_at (b off c : Nat) : ((⟨b, off, none⟩ : Addr).add c) = ⟨b, off + c, none⟩ := by
  unfold Addr.add
  split
  · rename_i h0; subst h0; rfl
  · rfl
/-- a chunk that shows a row -/
inductive Shows : Ck → Option Addr → Nat → Nat → List Value → Prop where
  | ro (A m sz xs) : Shows (.ro A m sz xs) A m sz xs
  | own (A m c T sz xs) : Shows (.own A m c T sz xs) A m sz xs
theorem Shows.row {c : Ck} {A : Option Addr} {m sz : Nat} {xs : List Value} {w : World} (h : Shows c A m sz xs) (hc : c.holds w) : Row w w.heap.size sz A m xs := by
  cases h with
  | ro => exact hc
  | own => exact row_of_own hc
theorem yl_index {E : Env P} {p c1 c2 : Option Bool} {dst : Option Tmp} {T : TypeId} {x y : Operand} {ty : TypeId} {pos : String} {after : Array Edge} {guard : Option (Nat × Bool)} (k : Nat) {ck : Ck} {A : Option Addr} {m c : Nat} {κ : IntKind} {iv : Int} {e : TypeId} {j : TyI} {xs : List Value}
    (hx : ov t x = some (c1, .slice A m c)) (hy : ov t y = some (c2, .int κ iv)) (hT : tyOf E.f T = .slice e) (he : E.f e = some j) (hk : L[k]? = some ck) (hsh : Shows ck A m j.size xs)
    (h1 : cb p = true → cb c1 = true) (h2 : cb p = true → cb c2 = true) (hb : cb p = true → 0 ≤ iv ∧ iv < m) : Yl P n t L p ⟨dst, .indexAddr T x y, ty, pos, after, guard⟩ (atI A (mulI iv.toNat j.size)) := fun hp M a w hf hm => by
  have hu := run_underlying (P := P) (tyOf_slice hT) w
  have hs := E.size he w
  obtain ⟨hb1, hb2⟩ := hb hp
  obtain ⟨b, off, rfl, _, _⟩ := (hsh.row (hm.get hk)).2 (by omega)
  unfold execOp
  refine run_v ?_
  rw [hf.ov hx (h1 hp), hf.ov hy (h2 hp)]
  simp [Instr.indexAt, asIntOf, hu, hb1, hb2, hs, atI, mulI_eq]
/-- a field of an element -/
theorem yl_fieldI {E : Env P} {p c1 : Option Bool} {dst : Option Tmp} {T : TypeId} {x : Operand} {f : Nat} {ty : TypeId} {pos : String} {after : Array Edge} {guard : Option (Nat × Bool)} (k : Nat) {ck : Ck} {A : Option Addr} {m c sz : Nat} {fs : List (TypeId × Nat)} {fd : TypeId × Nat} {j : TyI} {xs : List Value}
    (hx : ov t x = some (c1, atI A c)) (hT : tyOf E.f T = .struct fs) (hf' : fs[f]? = some fd) (he : E.f fd.1 = some j) (hpos : Nat.blt 0 j.size = true) (hk : L[k]? = some ck) (hsh : Shows ck A m sz xs) (h1 : cb p = true → cb c1 = true) (hm0 : cb p = true → 0 < m) :
    Yl P n t L p ⟨dst, .fieldAddr T x f, ty, pos, after, guard⟩ (atI A (c + fd.2)) := fun hp M a w hf hm => by
  obtain ⟨gs, hgs, hU⟩ := tyOf_struct hT
  have hu := run_underlying hU w
  obtain ⟨gd, hgd, rfl⟩ : ∃ gd, gs[f]? = some gd ∧ (gd.type, gd.offset) = fd := by
    rw [← hgs] at hf'
    simpa using hf'
  have hsz := E.size he w
  have hpos : 0 < j.size := Nat.le_of_ble_eq_true hpos
  obtain ⟨b, off, rfl, _, _⟩ := (hsh.row (hm.get hk)).2 (hm0 hp)
  unfold execOp
  refine run_v ?_
  rw [hf.ov hx (h1 hp)]
  have : j.size ≠ 0 := by omega
  simp [Instr.fieldAt, hu, hgd, Instr.sureAddr, fieldPlace, hsz, this, atI, add_at, Nat.add_assoc]
theorem yl_loadI {E : Env P} {p c : Option Bool} {dst : Option Tmp} {T : TypeId} {x : Operand} {ty : TypeId} {pos : String} {after : Array Edge} {guard : Option (Nat × Bool)} (k : Nat) {ck : Ck} {A : Option Addr} {m q sz : Nat} {j : TyI} {xs : List Value} {v : Value}
    (hx : ov t x = some (c, atI A q)) (hT : E.f T = some j) (hk : L[k]? = some ck) (hsh : Shows ck A m sz xs) (ha : isAggD j.desc = false)
    (hv : cb p = true → xs[q]? = some v) (h1 : cb p = true → cb c = true) : Yl P n t L p ⟨dst, .load T x, ty, pos, after, guard⟩ v := fun hp M a w hf hm => by
  have hr := hsh.row (hm.get hk)
  have hl := hr.1
  have hv := hv hp
  have hq : q < xs.length := (List.getElem?_eq_some_iff.1 hv).1
  obtain ⟨b, off, rfl, _, hc⟩ := hr.2 (by
    rcases Nat.eq_zero_or_pos m with h0 | h0
    · rw [h0, Nat.zero_mul] at hl; omega
    · exact h0)
  have hcell := hc q v hv
  have hu := isAgg_run hT w
  unfold execOp
  refine run_v ?_
  rw [hf.ov hx (h1 hp)]
  simp [Instr.loadAt, atI, Instr.sureAddr, add_at, loadVar, hu, ha, load, Sem.run, hcell]
/-- cells number c and on -/
def cellsAt (xs : List Value) (c sz : Nat) : List Value := (xs.drop c).take sz
theorem yl_loadN {E : Env P} {p c : Option Bool} {dst : Option Tmp} {T : TypeId} {x : Operand} {ty : TypeId} {pos : String} {after : Array Edge} {guard : Option (Nat × Bool)} (k : Nat) {ck : Ck} {A : Option Addr} {m q sz : Nat} {j : TyI} {xs vs : List Value}
    (hx : ov t x = some (c, atI A q)) (hT : E.f T = some j) (hk : L[k]? = some ck) (hsh : Shows ck A m sz xs) (ha : isAggD j.desc = true)
    (hv : cb p = true → cellsAt xs q j.size = vs) (hlen : vs.length = j.size) (hpos : Nat.blt 0 j.size = true) (h1 : cb p = true → cb c = true) : Yl P n t L p ⟨dst, .load T x, ty, pos, after, guard⟩ (.agg vs.toArray) := fun hp M a w hf hm => by
  have hr := hsh.row (hm.get hk)
  have hl := hr.1
  have hv := hv hp
  have hpos : 0 < j.size := Nat.le_of_ble_eq_true hpos
  obtain ⟨b, off, rfl, _, hc⟩ := hr.2 (by
    rcases Nat.eq_zero_or_pos m with h0 | h0
    · rw [h0, Nat.zero_mul] at hl
      rw [← hv, cellsAt, List.eq_nil_of_length_eq_zero hl] at hlen
      simp at hlen
      omega
    · exact h0)
  have hu := isAgg_run hT w
  have hs := E.size hT w
  unfold execOp
  refine run_v ?_
  rw [hf.ov hx (h1 hp)]
  have hcells := run_loadCells_list (P := P) w ⟨b, off + q, none⟩ vs (fun d u hu => by
    rw [← hv, cellsAt, List.getElem?_take] at hu
    split at hu
    · rw [List.getElem?_drop] at hu
      have := hc _ u hu
      rw [add_at]
      simpa [Nat.add_assoc] using this
    · cases hu)
  rw [hlen] at hcells
  simp [Instr.loadAt, atI, Instr.sureAddr, add_at, loadVar, hu, ha, hs, hcells]

theorem flat_len {α : Type} {f : α → List Value} {m : Nat} (hf : ∀ x, (f x).length = m) (l : List α) : (l.flatMap f).length = l.length * m := by
  induction l with
  | nil => simp
  | cons x l ih => simp [hf, ih, Nat.add_mul, Nat.add_comm]
theorem flat_at {α : Type} {f : α → List Value} {m : Nat} (hf : ∀ x, (f x).length = m) : ∀ {l : List α} {k : Nat} {x : α}, l[k]? = some x → cellsAt (l.flatMap f) (mulI k m) m = f x
  | y :: l, 0, x, h => by
    cases h
    rw [mulI_eq, Nat.zero_mul, cellsAt, List.drop_zero, List.flatMap_cons, List.take_append_of_le_length (by rw [hf]; exact Nat.le_refl _), List.take_of_length_le (by rw [hf]; exact Nat.le_refl _)]
  | y :: l, k + 1, x, h => by
    have ih := flat_at hf (l := l) (k := k) (x := x) (by simpa using h)
    rw [mulI_eq] at ih ⊢
    rw [← ih, cellsAt, cellsAt, List.flatMap_cons, List.drop_append, List.drop_eq_nil_of_le (by rw [hf, Nat.add_mul]; omega), List.nil_append, hf]
    congr 2
    rw [Nat.add_mul]
    omega
theorem run_v2 {s : Sem Value} {v : Value} {w w' : World} (h : s.run P w = .ok v w') : (do pure (.value (← s)) : Sem Next).run P w = .ok (.value v) w' := by simp [h]
/-- a slice of values, made -/
theorem lx_row {E : Env P} {T : TypeId} {m : Nat} {ps : Array (Nat × Operand)} {dst : Option Tmp} {ty : TypeId} {pos : String} {after : Array Edge} {guard : Option (Nat × Bool)} {d : Nat} {e : TypeId} {j : TyI} {z : Value} {vs : List Value} (hl : s.loud i = true) {p : Option Bool} (hg : gOf ops t ⟨dst, .buildSlice T m ps, ty, pos, after, guard⟩ = some p) (hp : cb p = true) (hd : dst = some d) (hn : Nat.blt d n = true)
    (hT : tyOf E.f T = .slice e) (he : E.f e = some j) (hz : j.zero = some z) (hps : ps.toList.map (·.1) = List.range m) (hvs : o1s t (ps.toList.map (·.2)) = some vs) (hsz : vs.all (fun v => (cellsL v).length == j.size) = true) (hpos : Nat.blt 0 (m * j.size) = true) (hsmall : Nat.ble (m * j.size) 16777216 = true)
    (h : ∀ b, LX P n M ops s (i + 1) rest Q ((d, none, .slice (some ⟨b, 0, none⟩) m m) :: t) (.blk b (vs.flatMap cellsL) e :: L)) : LX P n M ops s i (⟨dst, .buildSlice T m ps, ty, pos, after, guard⟩ :: rest) Q t L :=
  lx_new hl hg hp hd hn (fun b => .slice (some ⟨b, 0, none⟩) m m) (fun a w hf => by
    obtain ⟨g, hgi, h1, h2, h3⟩ := E.info he
    have hpos' : 0 < m * j.size := Nat.le_of_ble_eq_true hpos
    have hsmall' : m * j.size ≤ 16777216 := Nat.le_of_ble_eq_true hsmall
    have hev := o1s_eval hf hvs
    have hlen : vs.length = m := by
      have := congrArg List.length hev
      have h4 := congrArg List.length hps
      simp only [List.length_map, List.length_range] at this h4
      omega
    have hall : ∀ v ∈ vs, v.cells.size = j.size := fun v hv => by
      have := List.all_eq_true.1 hsz v hv
      rw [cellsL_ok]
      simpa using this
    have hfill := Go.Great.fill_whole (s := j.size) (Nat.pos_of_mul_pos_left hpos') vs ((Array.range (m * j.size)).map (z.cells[· % z.cells.size]!)) hall (by simp [hlen])
    have hparts : (ps.map fun (i, x) => (i, a.eval x)).toList = (vs.zipIdx 0).map fun x => (x.2, x.1) := by
      apply List.ext_getElem?
      intro q
      have h5 : (ps.toList.map (·.1))[q]? = (List.range m)[q]? := by rw [hps]
      have h6 : ((ps.toList.map (·.2)).map a.eval)[q]? = vs[q]? := by rw [hev]
      simp only [List.getElem?_map] at h5 h6
      simp only [Array.toList_map, List.getElem?_map, List.getElem?_zipIdx]
      cases hq : ps.toList[q]? with
      | none => rw [hq] at h6; simp at h6; rw [List.getElem?_eq_none h6]; rfl
      | some pr =>
        rw [hq] at h5 h6
        simp only [Option.map_some] at h5 h6
        have : q < m := by
          rcases Nat.lt_or_ge q m with h7 | h7
          · exact h7
          · rw [List.getElem?_eq_none (by simpa using h7)] at h5; cases h5
        rw [List.getElem?_range this] at h5
        rw [← h6]
        simp at h5 ⊢
        exact h5
    have hr := run_buildSlice (P := P) w T e m (ps.map fun (i, x) => (i, a.eval x)) _ g z (tyOf_slice hT) hgi (by rw [h3, hz]) (by rw [h1]; omega) (by rw [h1]; omega) (by rw [h1, hparts]; exact hfill)
    unfold execOp
    have : vs.flatMap (fun v => v.cells.toList) = vs.flatMap cellsL := by
      congr 1
      funext v
      rw [cellsL_ok]
    rw [this] at hr
    exact run_v2 hr) h
end
end Go.Proofs.YtmochicneilhhaaGreat
