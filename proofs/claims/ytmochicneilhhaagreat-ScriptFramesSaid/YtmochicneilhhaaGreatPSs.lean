/- More rules: bytes and texts, as lists of 8 digits each. More rules: parts of a text; scopes and labels that nothing jumps to. -/
import Derived.Test.YtmochicneilhhaaGreatPCk
import Derived.Laws.BytesString
import Derived.Lib.ConvBytes
import Derived.Scope
namespace Go.Proofs.YtmochicneilhhaaGreat
open Go.RowKit
abbrev B8 := BitVec 8
def bv (b : B8) : Value := .int .u8 b.toNat
def bvs (l : List B8) : List Value := l.map bv
/-- a text's bytes -/
def sb (l : List B8) : ByteArray := ⟨(l.map UInt8.ofBitVec).toArray⟩
theorem bvs_len (l : List B8) : (bvs l).length = l.length := by simp [bvs]
theorem bvs_get {l : List B8} {i : Nat} {b : B8} (h : l[i]? = some b) : (bvs l)[i]? = some (bv b) := by simp [bvs, h]
theorem bvs_append (l m : List B8) : bvs (l ++ m) = bvs l ++ bvs m := by simp [bvs]
theorem bvs_one {l : List B8} : ∀ u ∈ bvs l, u.oneCell' = true := by
  intro u hu
  obtain ⟨b, _, rfl⟩ := List.mem_map.1 hu
  rfl
theorem bvs_inj {l m : List B8} (h : bvs l = bvs m) : l = m := by
  refine List.map_inj_right (f := bv) (fun a b hab => ?_) |>.1 h
  simp only [bv, Value.int.injEq, true_and] at hab
  exact BitVec.eq_of_toNat_eq (by omega)
theorem cutL_bvs (l : List B8) (lo hi : Nat) : cutL (bvs l) lo hi 1 = bvs ((l.drop lo).take (hi - lo)) := by
  simp [cutL, bvs, List.map_take, List.map_drop]
/-- numbers in a byte's range are a byte -/
theorem bv_of {n : Int} (h : 0 ≤ n ∧ n < 256) : Value.int .u8 n = bv (BitVec.ofInt 8 n) := by
  simp only [bv, Value.int.injEq, true_and, BitVec.toNat_ofInt]
  omega
theorem sb_size (l : List B8) : (sb l).size = l.length := by
  show (l.map UInt8.ofBitVec).toArray.size = l.length
  simp
theorem sb_list (l : List B8) : (sb l).data.toList = l.map UInt8.ofBitVec := by simp [sb]
theorem sb_ex (s : ByteArray) : ∃ l, s = sb l ∧ l.length = s.size := by
  refine ⟨s.data.toList.map UInt8.toBitVec, ?_, by simp⟩
  cases s with
  | mk d =>
    simp only [sb, List.map_map, ByteArray.mk.injEq]
    have : UInt8.ofBitVec ∘ UInt8.toBitVec = id := by funext x; rfl
    rw [this, List.map_id, Array.toArray_toList]
theorem sb_inj {l m : List B8} : sb l = sb m ↔ l = m := by
  refine ⟨fun h => ?_, fun h => h ▸ rfl⟩
  have := congrArg (fun s : ByteArray => s.data.toList) h
  rw [sb_list, sb_list] at this
  exact List.map_inj_right (fun a b hab => by cases hab; rfl) |>.1 this
theorem toList_loop (s : ByteArray) : s.toList = s.data.toList := by
  have h : ∀ (k i : Nat) (r : List UInt8), s.size - i = k → ByteArray.toList.loop s i r = r.reverse ++ s.data.toList.drop i := by
    intro k
    induction k with
    | zero =>
      intro i r hk
      unfold ByteArray.toList.loop
      rw [if_neg (by omega), List.drop_eq_nil_of_le (by simp; omega), List.append_nil]
    | succ k ih =>
      intro i r hk
      unfold ByteArray.toList.loop
      have hi : i < s.size := by omega
      rw [if_pos hi, ih _ _ (by omega)]
      have hi' : i < s.data.toList.length := by simpa using hi
      have hg : s.get! i = s.data.toList[i] := by
        show s.data[i]! = _
        rw [getElem!_pos s.data i (by simpa using hi)]
        simp
      rw [List.drop_eq_getElem_cons hi', hg]
      simp
  have := h s.size 0 [] (by simp)
  simpa [ByteArray.toList] using this
theorem sb_toList (l : List B8) : (sb l).toList = l.map UInt8.ofBitVec := by rw [toList_loop, sb_list]
theorem sb_empty : ByteArray.empty = sb [] := rfl
theorem sb_append (l m : List B8) : sb l ++ sb m = sb (l ++ m) := by
  apply ByteArray.ext
  rw [ByteArray.data_append]
  simp [sb]
theorem sb_extract (l : List B8) (a b : Nat) : (sb l).extract a b = sb ((l.take b).drop a) := by
  apply ByteArray.ext
  rw [ByteArray.data_extract]
  apply Array.ext'
  rw [List.drop_take]
  simp [sb, List.map_take, List.map_drop, List.extract_eq_take_drop]
theorem sb_get {l : List B8} {i : Nat} {b : B8} (h : l[i]? = some b) : (sb l)[i]? = some (UInt8.ofBitVec b) := by
  have hi : i < l.length := (List.getElem?_eq_some_iff.1 h).1
  have hb := (List.getElem?_eq_some_iff.1 h).2
  rw [getElem?_pos _ _ (by rw [sb_size]; exact hi)]
  show some ((sb l).data[i]'_) = _
  simp [sb, hb]
theorem push_all (ns : List B8) (s : ByteArray) : (ns.map (fun b => (b.toNat : Int))).foldl (fun r n => r.push (UInt8.ofNat n.toNat)) s = s ++ sb ns := by
  induction ns generalizing s with
  | nil =>
    apply ByteArray.ext
    simp [sb]
  | cons b ns ih =>
    rw [List.map_cons, List.foldl_cons, ih]
    apply ByteArray.ext
    rw [ByteArray.data_append, ByteArray.data_append, ByteArray.data_push]
    have : UInt8.ofNat (b.toNat : Int).toNat = UInt8.ofBitVec b := by
      apply UInt8.toBitVec_inj.1
      simp
    rw [this]
    simp [sb]
section
variable {P : Program} {n : Nat} {M : Me} {Q : Post} {t : Fr} {L : List Ck} {ops : Array Oper} {s : Way} {i : Nat} {rest : List Oper}
/-- a text's length -/
theorem yl_slen {E : Env P} {p c : Option Bool} {dst : Option Tmp} {T : TypeId} {x : Operand} {ty : TypeId} {pos : String} {after : Array Edge} {guard : Option (Nat × Bool)} {l : List B8}
    (hx : ov t x = some (c, .string (sb l))) (hT : tyOf E.f T = .string) (h1 : cb p = true → cb c = true) : Yl P n t L p ⟨dst, .call ⟨.builtin .len, #[x], #[T]⟩, ty, pos, after, guard⟩ (.int .i64 l.length) := fun hp M a w hf hm => by
  have hu := run_underlying (P := P) (tyOf_string hT) w
  unfold execOp
  simp [resolve, invoke, builtin, hf.ov hx (h1 hp), Builtin.len_, hu, goInt, sb_size]
/-- a byte of a text -/
theorem yl_sat {E : Env P} {p c c2 : Option Bool} {dst : Option Tmp} {T : TypeId} {x y : Operand} {ty : TypeId} {pos : String} {after : Array Edge} {guard : Option (Nat × Bool)} {l : List B8} {κ : IntKind} {iv : Int} {b : B8}
    (hx : ov t x = some (c, .string (sb l))) (hy : ov t y = some (c2, .int κ iv)) (hT : tyOf E.f T = .string) (h1 : cb p = true → cb c = true) (h2 : cb p = true → cb c2 = true) (hi : cb p = true → 0 ≤ iv ∧ l[iv.toNat]? = some b) :
    Yl P n t L p ⟨dst, .index T x y, ty, pos, after, guard⟩ (bv b) := fun hp M a w hf hm => by
  have hu := run_underlying (P := P) (tyOf_string hT) w
  obtain ⟨h3, h4⟩ := hi hp
  unfold execOp
  refine run_v ?_
  simp [hf.ov hx (h1 hp), hf.ov hy (h2 hp), Instr.index, asIntOf, hu, h3, sb_get h4, bv]
/-- texts, one behind the other -/
theorem yl_cat {p c1 c2 : Option Bool} {dst : Option Tmp} {T T' : TypeId} {x y : Operand} {ty : TypeId} {pos : String} {after : Array Edge} {guard : Option (Nat × Bool)} {l m : List B8}
    (hx : ov t x = some (c1, .string (sb l))) (hy : ov t y = some (c2, .string (sb m))) (h1 : cb p = true → cb c1 = true) (h2 : cb p = true → cb c2 = true) (hs : cb p = true → l.length + m.length ≤ 9223372036854775807) :
    Yl P n t L p ⟨dst, .binOp .add T x y T', ty, pos, after, guard⟩ (.string (sb (l ++ m))) := fun hp M a' w hf _ => by
  have h3 := hs hp
  unfold execOp
  refine run_v ?_
  rw [hf.ov hx (h1 hp), hf.ov hy (h2 hp)]
  have h4 : ¬ (((sb l).size + (sb m).size : Nat) : Int) > IntKind.i64.max := by
    rw [sb_size, sb_size]
    have : IntKind.i64.max = 9223372036854775807 := by decide
    omega
  simp only [eqGuard, binOp, Op.stringOp, if_neg h4, sb_append]
  simp
/-- a slice of bytes as a text -/
theorem yl_text {E : Env P} {p c1 : Option Bool} {dst : Option Tmp} {S T : TypeId} {x : Operand} {ty : TypeId} {pos : String} {after : Array Edge} {guard : Option (Nat × Bool)} {A : Option Addr} {m c : Nat} {e : TypeId} {l : List B8}
    (hx : ov t x = some (c1, .slice A m c)) (hS : tyOf E.f S = .slice e) (he : tyOf E.f e = .int .u8) (hT : tyOf E.f T = .string) (hr : ∀ M w, Mem M L w → Row w w.heap.size 1 A m (bvs l)) (h1 : cb p = true → cb c1 = true) :
    Yl P n t L p ⟨dst, .convert S T x, ty, pos, after, guard⟩ (.string (sb l)) := fun hp M a w hf hm => by
  have u1 := run_underlying (P := P) (tyOf_slice hS) w
  have u2 := run_underlying (P := P) (tyOf_string hT) w
  have u3 := run_underlying (P := P) (tyOf_int he) w
  have hrow := hr M w hm
  have hl : l.length = m := by have := hrow.1; rw [bvs_len] at this; omega
  unfold execOp
  refine run_v ?_
  rw [hf.ov hx (h1 hp)]
  unfold convert
  simp only [Sem.run_bind, u1, u2, u3, Result.andThen_ok]
  rcases Nat.eq_zero_or_pos m with h0 | h0
  · subst h0
    have : l = [] := List.eq_nil_of_length_eq_zero hl
    subst this
    cases A with
    | none => rfl
    | some a0 =>
      have := run_bytesToString (P := P) w a0 0 c [] (by simp [loadCells, loadCellsFrom])
      simpa [sb_empty] using this
  · obtain ⟨b, off, rfl, _, hc⟩ := hrow.2 h0
    have hcells := run_loadCells_list (P := P) w ⟨b, off, none⟩ (bvs l) (fun q u hu => by
      have := hc q u hu
      unfold Addr.add
      split
      · rename_i h0; subst h0; simpa using this
      · exact this)
    rw [bvs_len, hl] at hcells
    have e : bvs l = (l.map (fun b => (b.toNat : Int))).map (Value.int .u8) := by simp [bvs, bv]
    rw [e] at hcells
    have := run_bytesToString (P := P) w ⟨b, off, none⟩ m c _ hcells
    rw [push_all] at this
    have h5 : ByteArray.empty ++ sb l = sb l := by rw [sb_empty, sb_append, List.nil_append]
    rw [h5] at this
    exact this
/-- what is new, and read alone -/
theorem Mem.newro {w w' : World} {c' : Ck} (h : Mem M L w) (hos : w'.os = w.os) (htape : w'.tape = w.tape) (hout : w'.output = w.output) (hsz : w.heap.size ≤ w'.heap.size) (hst : ∀ b, b < w.heap.size → w'.heap[b]? = w.heap[b]?) (hc : c'.holds w') (hm : c'.mut_ = false) (hon : ∀ b, c'.on b → w.heap.size ≤ b) : Mem M (c' :: L) w' := by
  refine ⟨⟨hos.trans h.keep.os, htape.trans h.keep.tape, hout.trans h.keep.output, Nat.le_trans h.keep.size hsz, fun k hk hd => (hst k (Nat.lt_of_lt_of_le hk h.keep.size)).trans (h.keep.block k hk hd)⟩, fun c hc' => ?_, fun c hc' hcm b hb => ?_, List.Pairwise.cons (fun c hc' _ b hb hb' => ?_) h.sep⟩
  · rcases List.mem_cons.1 hc' with rfl | hc'
    · exact hc
    · exact Ck.stay hsz (fun b hb => hst b (Ck.lt (h.all c hc') hb)) (h.all c hc')
  · rcases List.mem_cons.1 hc' with rfl | hc'
    · rw [hm] at hcm; cases hcm
    · exact h.out c hc' hcm b hb
  · exact absurd (Ck.lt (h.all c hc') hb') (Nat.not_lt.2 (hon b hb))
/-- a text as a slice of bytes -/
theorem lx_bytes {E : Env P} {S T : TypeId} {x : Operand} {dst : Option Tmp} {ty : TypeId} {pos : String} {after : Array Edge} {guard : Option (Nat × Bool)} {d : Nat} {e : TypeId} {l : List B8} (hl : s.loud i = true) {p : Option Bool} (hg : gOf ops t ⟨dst, .convert S T x, ty, pos, after, guard⟩ = some p) (hp : cb p = true) (hd : dst = some d) (hn : Nat.blt d n = true)
    (hx : o1 t x = some (.string (sb l))) (hS : tyOf E.f S = .string) (hT : tyOf E.f T = .slice e) (he : tyOf E.f e = .int .u8) (h63 : l.length ≤ 9223372036854775807)
    (h : ∀ b c, l.length ≤ c → c ≤ 9223372036854775807 → LX P n M ops s (i + 1) rest Q ((d, none, .slice (some ⟨b, 0, none⟩) l.length c) :: t) (.ro (some ⟨b, 0, none⟩) l.length 1 (bvs l) :: L)) : LX P n M ops s i (⟨dst, .convert S T x, ty, pos, after, guard⟩ :: rest) Q t L :=
  lx_loud hl hg hp fun a w hf hm hs K hK => by
    have hr := Lib.run_convert_string_bytes (P := P) w S T e (sb l) (tyOf_string hS) (tyOf_slice hT) (tyOf_int he)
    unfold Oper.wp execOp
    simp only [hf.o1 hx, Sem.run_bind, hr, Result.andThen_ok, Sem.run_pure]
    rw [sb_size] at hr ⊢
    show K (a.put dst _) _
    rw [hd]
    refine hK _ _ _ _ (hf.put1 (Nat.le_of_ble_eq_true hn) _) (hm.newro (c' := .ro (some ⟨w.heap.size, 0, none⟩) l.length 1 (bvs l)) rfl rfl rfl (by rw [Lib.bytesWorld_size]; omega) (fun b hb => Lib.bytesWorld_at_old w e (sb l) b hb) ⟨by rw [bvs_len, Nat.mul_one], fun _ => ⟨w.heap.size, 0, rfl, by rw [Lib.bytesWorld_size]; omega, fun j u hu => ?_⟩⟩ rfl (fun b hb => by cases hb.2; exact Nat.le_refl _)) (hs.more (Gives.tail _ _)) (h w.heap.size _ (grownCap_ge w _ 0 e) (grownCap_le_maxLen w _ 0 e h63))
    have hj : j < l.length := by
      have := (List.getElem?_eq_some_iff.1 hu).1
      rwa [bvs_len] at this
    rw [Nat.zero_add, Lib.bytesWorld_cell w e (sb l) j (by rw [sb_size]; exact hj), sb_list]
    rw [bvs, List.getElem?_map, List.getElem?_eq_getElem hj] at hu
    cases hu
    simp [hj, bv]
end
end Go.Proofs.YtmochicneilhhaaGreat
namespace Go.Proofs.YtmochicneilhhaaGreat
open Go.RowKit
section
variable {P : Program} {n : Nat} {t : Fr} {L : List Ck}
theorem cx_scope {M : Me} {Q : Post} {c : Code} (h : CX P n M c Q t L) : CX P n M (.scope c) Q t L := fun a w hf hm => by
  refine wp_scope_straight (wp_mono (h a w hf hm) fun e a' w' hq => ?_)
  cases e <;> first
    | exact hq
    | exact hq.elim
theorem cx_label {M : Me} {Q : Post} {l : Nat} (h : Q .normal t L) : CX P n M (.label l) Q t L := fun _ _ hf hm => wp_label ⟨t, L, hf, hm, h⟩
/-- a text's beginning -/
theorem yl_strH {E : Env P} {p c1 c3 : Option Bool} {dst : Option Tmp} {T : TypeId} {x z : Operand} {ty : TypeId} {pos : String} {after : Array Edge} {guard : Option (Nat × Bool)} {l : List B8} {κ : IntKind} {hi : Int}
    (hx : ov t x = some (c1, .string (sb l))) (hz : ov t z = some (c3, .int κ hi)) (hT : tyOf E.f T = .string) (h1 : cb p = true → cb c1 = true) (h3 : cb p = true → cb c3 = true) (hb : cb p = true → 0 ≤ hi ∧ hi ≤ l.length) :
    Yl P n t L p ⟨dst, .slice T x none (some z) none, ty, pos, after, guard⟩ (.string (sb (l.take hi.toNat))) := fun hp M a w hf hm => by
  have hu := run_underlying (P := P) (tyOf_string hT) w
  have k1 := hb hp
  rw [← sb_size] at k1
  unfold execOp
  refine run_v ?_
  simp [hf.ov hx (h1 hp), hf.ov hz (h3 hp), Instr.sliceAt, Instr.slice, Instr.sliceBounds, Instr.sliceBound, asIntOf, hu, k1, sb_extract]
/-- a text's end -/
theorem yl_strL {E : Env P} {p c1 c2 : Option Bool} {dst : Option Tmp} {T : TypeId} {x y : Operand} {ty : TypeId} {pos : String} {after : Array Edge} {guard : Option (Nat × Bool)} {l : List B8} {κ : IntKind} {lo : Int}
    (hx : ov t x = some (c1, .string (sb l))) (hy : ov t y = some (c2, .int κ lo)) (hT : tyOf E.f T = .string) (h1 : cb p = true → cb c1 = true) (h2 : cb p = true → cb c2 = true) (hb : cb p = true → 0 ≤ lo ∧ lo ≤ l.length) :
    Yl P n t L p ⟨dst, .slice T x (some y) none none, ty, pos, after, guard⟩ (.string (sb (l.drop lo.toNat))) := fun hp M a w hf hm => by
  have hu := run_underlying (P := P) (tyOf_string hT) w
  have k1 := hb hp
  rw [← sb_size] at k1
  unfold execOp
  refine run_v ?_
  simp [hf.ov hx (h1 hp), hf.ov hy (h2 hp), Instr.sliceAt, Instr.slice, Instr.sliceBounds, Instr.sliceBound, asIntOf, hu, k1, sb_extract, sb_size]
  intro h
  rw [sb_size] at k1
  omega
end
end Go.Proofs.YtmochicneilhhaaGreat
