/- requests, plainly; requests: compared; requests: kinds and their names; which panes; a request with the parts of its kind alone; requests: their parts gone over, and made blank; requests: which may be; requests: right ones. -/
import Derived.Test.YtmochicneilhhaaGreatPEb
import Derived.Test.YtmochicneilhhaaGreatPGo
import Derived.Test.YtmochicneilhhaaGreatPIv
import Derived.Lib.Bytealg
--SHORT 2
namespace Go.Proofs.YtmochicneilhhaaGreat.rq
open Go.RowKit Go.Proofs.YtmochicneilhhaaGreat.pk
structure RQ where
  k : B8
  id : BitVec 32
  pg : B8
  du : BitVec 16
  at_ : BitVec 64
  le : BitVec 64
  so : B8
  ky : List B8
  to_ : List B8
  ls : Int
  ms : Int
abbrev RQ.cells (r : RQ) : List Value := [.int .u8 r.k.toNat, .int .u32 r.id.toNat, .int .u8 r.pg.toNat, .int .u16 r.du.toNat, .int .u64 r.at_.toNat, .int .u64 r.le.toNat, .int .u8 r.so.toNat, .string (sb r.ky), .string (sb r.to_), .int .i64 r.ls, .int .i64 r.ms]
abbrev RQ.val (r : RQ) : Value := .agg #[.int .u8 r.k.toNat, .int .u32 r.id.toNat, .int .u8 r.pg.toNat, .int .u16 r.du.toNat, .int .u64 r.at_.toNat, .int .u64 r.le.toNat, .int .u8 r.so.toNat, .string (sb r.ky), .string (sb r.to_), .int .i64 r.ls, .int .i64 r.ms]
abbrev zeroQ : RQ := ⟨0#8, 0#32, 0#8, 0#16, 0#64, 0#64, 0#8, [], [], 0, 0⟩
/-- the parts of a request: a At, l Lease, p Page, d Dur, w which panes -/
inductive Pt where
  | a
  | l
  | p
  | d
  | w
def Pt.beq : Pt → Pt → Bool
  | .a, .a => true
  | .l, .l => true
  | .p, .p => true
  | .d, .d => true
  | .w, .w => true
  | _, _ => false
def Pt.ltr : Pt → B8
  | .a => 97#8
  | .l => 108#8
  | .p => 112#8
  | .d => 100#8
  | .w => 119#8
def pts (k : B8) : List Pt := if k = 1#8 then [.a, .p, .w] else if k = 2#8 then [.a, .d] else if k = 3#8 then [.l, .d] else if k = 4#8 then [.l] else if k = 5#8 then [.d, .w] else if k = 6#8 then [.l, .p, .d] else if k = 7#8 then [.l] else []
def names (k : B8) : List B8 := (pts k).map Pt.ltr
def known (k : B8) : Bool := decide (1 ≤ k.toNat) && decide (k.toNat ≤ 8)
theorem le8 {k : B8} (h : k.toNat ≤ 8) : k = 0#8 ∨ k = 1#8 ∨ k = 2#8 ∨ k = 3#8 ∨ k = 4#8 ∨ k = 5#8 ∨ k = 6#8 ∨ k = 7#8 ∨ k = 8#8 := by
  have h1 : k.toNat = 0 ∨ k.toNat = 1 ∨ k.toNat = 2 ∨ k.toNat = 3 ∨ k.toNat = 4 ∨ k.toNat = 5 ∨ k.toNat = 6 ∨ k.toNat = 7 ∨ k.toNat = 8 := by omega
  have e : ∀ n : Nat, n < 256 → k.toNat = n → k = BitVec.ofNat 8 n := fun n hn hk => BitVec.eq_of_toNat_eq (by rw [hk, BitVec.toNat_ofNat, Nat.mod_eq_of_lt hn])
  rcases h1 with h | h | h | h | h | h | h | h | h
  · exact .inl (e 0 (by decide) h)
  · exact .inr (.inl (e 1 (by decide) h))
  · exact .inr (.inr (.inl (e 2 (by decide) h)))
  · exact .inr (.inr (.inr (.inl (e 3 (by decide) h))))
  · exact .inr (.inr (.inr (.inr (.inl (e 4 (by decide) h)))))
  · exact .inr (.inr (.inr (.inr (.inr (.inl (e 5 (by decide) h))))))
  · exact .inr (.inr (.inr (.inr (.inr (.inr (.inl (e 6 (by decide) h)))))))
  · exact .inr (.inr (.inr (.inr (.inr (.inr (.inr (.inl (e 7 (by decide) h))))))))
  · exact .inr (.inr (.inr (.inr (.inr (.inr (.inr (.inr (e 8 (by decide) h))))))))
theorem known_cases {k : B8} (h : known k = true) : k = 1#8 ∨ k = 2#8 ∨ k = 3#8 ∨ k = 4#8 ∨ k = 5#8 ∨ k = 6#8 ∨ k = 7#8 ∨ k = 8#8 := by
  simp only [known, Bool.and_eq_true, decide_eq_true_eq] at h
  rcases le8 h.2 with rfl | h'
  · exact absurd h.1 (by decide)
  · exact h'
def has (k : B8) (q : Pt) : Bool := (pts k).any (Pt.beq q)
/-- a request with the parts of its kind alone -/
def RQ.only (r : RQ) : RQ := ⟨r.k, r.id, if has r.k .p then r.pg else 0#8, if has r.k .d then r.du else 0#16, if has r.k .a then r.at_ else 0#64, if has r.k .l then r.le else 0#64,
  if has r.k .w then r.so else 0#8, if has r.k .w then r.ky else [], if has r.k .w then r.to_ else [], if has r.k .w then r.ls else 0, if has r.k .w then r.ms else 0⟩
def RQ.blank (r : RQ) : Pt → RQ
  | .a => { r with at_ := 0#64 }
  | .l => { r with le := 0#64 }
  | .p => { r with pg := 0#8 }
  | .d => { r with du := 0#16 }
  | .w => { r with so := 0#8, ky := [], to_ := [], ls := 0, ms := 0 }
def RQ.eqB (a b : RQ) : Bool := (a.k.toNat : Int) == (b.k.toNat : Int) && ((a.id.toNat : Int) == (b.id.toNat : Int) && ((a.pg.toNat : Int) == (b.pg.toNat : Int) && ((a.du.toNat : Int) == (b.du.toNat : Int) && ((a.at_.toNat : Int) == (b.at_.toNat : Int) && ((a.le.toNat : Int) == (b.le.toNat : Int) && ((a.so.toNat : Int) == (b.so.toNat : Int) && (a.ky == b.ky && (a.to_ == b.to_ && (a.ls == b.ls && a.ms == b.ms)))))))))
theorem bv_eq {w : Nat} (a b : BitVec w) : ((a.toNat : Int) == (b.toNat : Int)) = true ↔ a = b := by
  rw [beq_iff_eq]
  exact ⟨fun h => BitVec.eq_of_toNat_eq (by omega), fun h => by rw [h]⟩
theorem RQ.eqB_iff (a b : RQ) : a.eqB b = true ↔ a = b := by
  obtain ⟨a1, a2, a3, a4, a5, a6, a7, a8, a9, a10, a11⟩ := a
  obtain ⟨b1, b2, b3, b4, b5, b6, b7, b8, b9, b10, b11⟩ := b
  simp only [RQ.eqB, Bool.and_eq_true, bv_eq, RQ.mk.injEq]
  simp only [beq_iff_eq]
def RQ.long (r : RQ) : Bool := !(decide (r.ky.length ≤ 32) && decide (r.to_.length ≤ 32))
def RQ.which (r : RQ) : Bool :=
  if r.so = 1#8 then r.ky != [] && !r.long && r.to_ == [] && r.ms == 0
  else if r.so = 2#8 then !r.long && r.ls == 0 && r.ms == 0
  else if r.so = 3#8 then r.ky == [] && r.to_ == [] else false
theorem RQ.which_len {r : RQ} (h : r.which = true) : r.ky.length ≤ 32 ∧ r.to_.length ≤ 32 := by
  have hl : r.long = false → r.ky.length ≤ 32 ∧ r.to_.length ≤ 32 := fun hl => by simpa [RQ.long] using hl
  unfold RQ.which at h
  split at h
  · simp only [Bool.and_eq_true, Bool.not_eq_true'] at h
    exact hl h.1.1.2
  · split at h
    · simp only [Bool.and_eq_true, Bool.not_eq_true'] at h
      exact hl h.1.1
    · split at h
      · simp only [Bool.and_eq_true, beq_iff_eq] at h
        rw [h.1, h.2]
        exact ⟨by decide, by decide⟩
      · cases h
theorem RQ.long_which {r : RQ} (h : r.long = true) : r.which = false := by
  rw [Bool.eq_false_iff]
  intro hw
  have := RQ.which_len hw
  simp [RQ.long] at h
  omega
def RQ.right (r : RQ) : Bool := known r.k && decide (r.pg.toNat ≤ 64) && !(has r.k .d && r.du == 0#16 && r.k != 6#8) && (!has r.k .w || r.which) && r.only.eqB r
/-- what is left when all parts are blank -/
theorem blank_fold : ∀ (l : List Pt) (r : RQ), l.foldl RQ.blank r = ⟨r.k, r.id, if l.any (Pt.beq .p) then 0#8 else r.pg, if l.any (Pt.beq .d) then 0#16 else r.du, if l.any (Pt.beq .a) then 0#64 else r.at_, if l.any (Pt.beq .l) then 0#64 else r.le,
    if l.any (Pt.beq .w) then 0#8 else r.so, if l.any (Pt.beq .w) then [] else r.ky, if l.any (Pt.beq .w) then [] else r.to_, if l.any (Pt.beq .w) then 0 else r.ls, if l.any (Pt.beq .w) then 0 else r.ms⟩
  | [], r => rfl
  | q :: l, r => by
    rw [List.foldl_cons, blank_fold l, List.any_cons, List.any_cons, List.any_cons, List.any_cons, List.any_cons]
    cases q
    · show (RQ.mk _ _ _ _ (if _ then _ else 0#64) _ _ _ _ _ _) = _
      rw [ite_self]; rfl
    · show (RQ.mk _ _ _ _ _ (if _ then _ else 0#64) _ _ _ _ _) = _
      rw [ite_self]; rfl
    · show (RQ.mk _ _ (if _ then _ else 0#8) _ _ _ _ _ _ _ _) = _
      rw [ite_self]; rfl
    · show (RQ.mk _ _ _ (if _ then _ else 0#16) _ _ _ _ _ _ _) = _
      rw [ite_self]; rfl
    · show (RQ.mk _ _ _ _ _ _ (if _ then _ else 0#8) (if _ then _ else []) (if _ then _ else []) (if _ then _ else 0) (if _ then _ else 0)) = _
      rw [ite_self, ite_self, ite_self]; rfl
theorem two_ways {α : Type} (b : Bool) (x z : α) : ((if b then z else x) = z) ↔ ((if b then x else z) = x) := by
  cases b
  · exact eq_comm
  · exact ⟨fun _ => rfl, fun _ => rfl⟩
theorem blank_all (r : RQ) : ((pts r.k).foldl RQ.blank r).eqB ⟨r.k, r.id, 0#8, 0#16, 0#64, 0#64, 0#8, [], [], 0, 0⟩ = r.only.eqB r := by
  rw [Bool.eq_iff_iff, RQ.eqB_iff, RQ.eqB_iff, blank_fold]
  obtain ⟨k, id, pg, du, at_, le, so, ky, to_, ls, ms⟩ := r
  simp only [RQ.only, has, RQ.mk.injEq, true_and]
  rw [two_ways _ pg, two_ways _ du, two_ways _ at_, two_ways _ le, two_ways _ so, two_ways _ ky, two_ways _ to_, two_ways _ ls, two_ways _ ms]
  exact Iff.rfl
theorem pts_ne {k : B8} (h1 : k ≠ 1#8) (h2 : k ≠ 2#8) (h3 : k ≠ 3#8) (h4 : k ≠ 4#8) (h5 : k ≠ 5#8) (h6 : k ≠ 6#8) (h7 : k ≠ 7#8) : pts k = [] := by
  simp only [pts, if_neg h1, if_neg h2, if_neg h3, if_neg h4, if_neg h5, if_neg h6, if_neg h7]
theorem has_eq (k : B8) : has k .a = (k == 1#8 || k == 2#8) ∧ has k .l = (k == 3#8 || k == 4#8 || k == 6#8 || k == 7#8) ∧ has k .p = (k == 1#8 || k == 6#8) ∧ has k .d = (k == 2#8 || k == 3#8 || k == 5#8 || k == 6#8) ∧ has k .w = (k == 1#8 || k == 5#8) := by
  by_cases h : k.toNat ≤ 8
  · rcases le8 h with rfl | rfl | rfl | rfl | rfl | rfl | rfl | rfl | rfl <;> exact ⟨rfl, rfl, rfl, rfl, rfl⟩
  · have hn : ∀ x : B8, x.toNat ≤ 8 → k ≠ x := fun x hx he => h (he ▸ hx)
    have hb : ∀ x : B8, x.toNat ≤ 8 → (k == x) = false := fun x hx => beq_eq_false_iff_ne.2 (hn x hx)
    have e := pts_ne (hn 1#8 (by decide)) (hn 2#8 (by decide)) (hn 3#8 (by decide)) (hn 4#8 (by decide)) (hn 5#8 (by decide)) (hn 6#8 (by decide)) (hn 7#8 (by decide))
    rw [has, has, has, has, has, e, hb 1#8 (by decide), hb 2#8 (by decide), hb 3#8 (by decide), hb 4#8 (by decide), hb 5#8 (by decide), hb 6#8 (by decide), hb 7#8 (by decide)]
    exact ⟨rfl, rfl, rfl, rfl, rfl⟩
/-- the letters of a text -/
theorem dec_ascii {l : List B8} {i : Nat} {x : B8} (h : l[i]? = some x) (hx : x.toNat < 128) : Utf8.decode (sb l) i = (x.toNat, 1) := by
  have hi : i < l.length := (List.getElem?_eq_some_iff.1 h).1
  have hg : ((sb l).get! i).toNat = x.toNat := by
    have hxi : l[i] = x := (List.getElem?_eq_some_iff.1 h).2
    have hi' : i < (sb l).data.size := by simpa [sb] using hi
    show ((sb l).data[i]!).toNat = _
    rw [getElem!_pos _ i hi']
    simp [sb, hxi]
  unfold Utf8.decode
  simp only [Nat.add_zero, hg]
  rw [if_pos hx]
theorem ltr_lt (q : Pt) : q.ltr.toNat < 128 := by cases q <;> decide
theorem names_get {k : B8} {i : Nat} {q : Pt} (h : (pts k)[i]? = some q) : (names k)[i]? = some q.ltr := by rw [names, List.getElem?_map, h]; rfl
theorem names_len (k : B8) : (names k).length = (pts k).length := List.length_map ..
end Go.Proofs.YtmochicneilhhaaGreat.rq
namespace Go.Proofs.YtmochicneilhhaaGreat.rq
open Go.RowKit Go.Proofs.YtmochicneilhhaaGreat.pk
theorem chain {p : Prop} [Decidable p] {x r : Bool} {X : Result Value} {w : World} (hx : x = decide p) (hX : X = .ok (.bool r) w) : (if p then X else .ok (.bool false) w) = .ok (.bool (x && r)) w := by
  subst hx
  by_cases h : p
  · rw [if_pos h, hX, decide_eq_true h]; rfl
  · rw [if_neg h, decide_eq_false h]; rfl
theorem chain1 {p : Prop} [Decidable p] {x : Bool} {w : World} (hx : x = decide p) : (if p then Result.ok (Value.bool true) w else .ok (.bool false) w) = .ok (.bool x) w := by
  subst hx
  by_cases h : p
  · rw [if_pos h, decide_eq_true h]
  · rw [if_neg h, decide_eq_false h]
theorem str_dec (l m : List B8) : (l == m) = decide ((sb l).toList = (sb m).toList) := by
  rw [← sb_beq]
  rw [Bool.eq_iff_iff, beq_iff_eq, decide_eq_true_eq]
theorem rqe (a b : RQ) (w : World) : (binOp .eql 52 a.val b.val).run Tryz.prog w = .ok (.bool (a.eqB b)) w := by
  go_simp
  unfold RQ.eqB
  exact chain rfl (chain rfl (chain rfl (chain rfl (chain rfl (chain rfl (chain rfl (chain (str_dec _ _) (chain (str_dec _ _) (chain rfl (chain1 rfl))))))))))
theorem rqe_g : Tryz.prog.eqGuardType Tryz.prog.depth 52 = false := by kernel_rfl
theorem rre (a b : RQ) (w : World) : (binOp .eql 53 a.val b.val).run Tryz.prog w = .ok (.bool (a.eqB b)) w := by
  go_simp
  unfold RQ.eqB
  exact chain rfl (chain rfl (chain rfl (chain rfl (chain rfl (chain rfl (chain rfl (chain (str_dec _ _) (chain (str_dec _ _) (chain rfl (chain1 rfl))))))))))
theorem rre_g : Tryz.prog.eqGuardType Tryz.prog.depth 53 = false := by kernel_rfl
end Go.Proofs.YtmochicneilhhaaGreat.rq
namespace Go.Proofs.YtmochicneilhhaaGreat.rq
open Go.RowKit Go.Proofs.YtmochicneilhhaaGreat.pk
attribute [local irreducible] LX CX Yl Gives RetIs Fn

theorem known_fn (k : B8) : Fn Tryz.prog 43 [bv k] [] [] fun v Lo => v = .bool (known k) ∧ Lo = [] := by
  have e : (decide ((k.toNat : Int) ≥ 1) && decide ((k.toNat : Int) ≤ 8)) = known k := by
    have e1 : decide ((k.toNat : Int) ≥ 1) = decide (1 ≤ k.toNat) := decide_eq_decide.2 (by omega)
    have e2 : decide ((k.toNat : Int) ≤ 8) = decide (k.toNat ≤ 8) := decide_eq_decide.2 (by omega)
    rw [known, e1, e2]
  refine fn_enter Tryz.func43 rfl rfl (by kernel_rfl) rfl ?_
  intro w0
  repeat (first | refine wz ?_ | (refine wzb ?_; intro b_) | fail)
  exact bq_ret (ret_tmp rfl rfl) [] (Gives.nil _) rfl ⟨by rw [← e], rfl⟩


set_option maxHeartbeats 4000000 in
theorem parts_fn (k : B8) (h : k.toNat ≤ 8) : Fn Tryz.prog 44 [bv k] [] [] fun v Lo => v = .string (sb (names k)) ∧ Lo = [] := by
  rcases le8 h with rfl | rfl | rfl | rfl | rfl | rfl | rfl | rfl | rfl
  all_goals
    refine fn_enter Tryz.func44 rfl rfl (by kernel_rfl) rfl ?_; intro w0
    repeat (first | ((first | (apply lx_u; exact rfl) | (apply lx_g; exact rfl; exact rfl)); first | (apply isy_indexAddr; exact q_xp rfl rfl rfl rfl (hb := (fun _ => by decide))) | (apply isy_load; exact q_lv 0 rfl rfl rfl rfl rfl) | fail) | refine wz ?_ | (refine wzb ?_; intro b_) | fail)
    exact bq_ret (ret_tmp rfl rfl) [] (Gives.nil _) rfl ⟨rfl, rfl⟩

















































/-- a letter, looked for in a text -/
def idx (l : List B8) (x : B8) : Int := Lib.indexByte (sb l).data.toList x.toNat.toUInt8
theorem idx_self (x : B8) : idx [x] x = 0 := by
  have h : Lib.indexByte [UInt8.ofBitVec x] x.toNat.toUInt8 = 0 := by
    have e : x.toNat.toUInt8 = UInt8.ofBitVec x := UInt8.toBitVec_inj.1 (BitVec.eq_of_toNat_eq (by simp))
    rw [e]
    simp [Lib.indexByte]
  exact h
theorem ibs_ext (s : ByteArray) (c : Int) (M : Me) (L : List Ck) (w : World) (_ : Mem M L w) : (callFunc 148 #[.string s, .int .u8 c]).run Tryz.prog w = .ok (.value (.int .i64 (Lib.indexByte s.data.toList c.toNat.toUInt8))) w := by
  rw [run_callFunc_extern Tryz.func148 (by kernel_rfl) (by kernel_rfl) (by kernel_rfl) (e := Extern.BytealgIndexByte.indexByte) (by kernel_rfl), Lib.run_indexByteString]
  rfl

theorem indexByte_fn (l : List B8) (x : B8) : Fn Tryz.prog 131 [.string (sb l), bv x] [] [] fun v Lo => v = .int .i64 (idx l x) ∧ Lo = [] := by
  refine fn_enter Tryz.func131 rfl rfl (by kernel_rfl) rfl ?_
  intro w0
  repeat (first | (refine isx_call ?_; (refine isx_call ?_; refine lx_ext0 (fun M w => ibs_ext (sb l) (x.toNat : Int) M _ w) rfl rfl rfl rfl rfl rfl rfl rfl ?_)) | refine wz ?_ | (refine wzb ?_; intro b_) | fail)
  exact bq_ret (ret_tmp rfl rfl) [] (Gives.nil _) rfl ⟨by rw [Int.toNat_natCast]; rfl, rfl⟩


theorem sindex_fn (l : List B8) (x : B8) : Fn Tryz.prog 109 [.string (sb l), .string (sb [x])] [] [] fun v Lo => v = .int .i64 (idx l x) ∧ Lo = [] := by
  refine fn_enter Tryz.func109 rfl rfl (by kernel_rfl) rfl ?_
  intro w0
  cases hl : ([x] == l) with
  | true =>
    obtain rfl : [x] = l := beq_iff_eq.1 hl
    repeat (first | ((first | (apply lx_gt; exact rfl; exact rfl; exact rfl) | (apply lx_u; exact rfl) | (apply lx_g; exact rfl; exact rfl)); first | (apply isy_blt; exact q_slen rfl rfl) | (apply isy_bin_eql; exact yl_false (yl_op (E := EV) rfl) (fun _ => rfl)) | (apply isy_bin_eql; exact yl_true (q_seq [x] [x] rfl rfl) (fun _ => hl)) | fail) | refine wzf ?_ | (refine wzb ?_; intro b_) | fail)
    refine cx_cond rfl (fun _ => ?_) (fun h => absurd h (by decide))
    repeat (first | refine wz ?_ | (refine wzb ?_; intro b_) | fail)
    exact bq_ret (ret_tmp rfl rfl) [] (Gives.nil _) rfl ⟨by rw [idx_self], rfl⟩
  | false =>
    repeat (first | ((first | (apply lx_gt; exact rfl; exact rfl; exact rfl) | (apply lx_u; exact rfl) | (apply lx_g; exact rfl; exact rfl)); first | (apply isy_blt; exact q_slen rfl rfl) | (apply isy_bin_eql; exact yl_false (yl_op (E := EV) rfl) (fun _ => rfl)) | (apply isy_bin_eql; exact yl_false (q_seq [x] l rfl rfl) (fun _ => hl)) | fail) | refine wzf ?_ | (refine wzb ?_; intro b_) | fail)
    refine cx_cond rfl (fun h => absurd h (by decide)) (fun _ => ?_)
    repeat (first | ((first | (apply lx_gt; exact rfl; exact rfl; exact rfl) | (apply lx_u; exact rfl) | (apply lx_g; exact rfl; exact rfl)); first | (apply isy_bin_eql; exact yl_true (yl_op (E := EV) rfl) (fun _ => rfl)) | fail) | refine wzf ?_ | (refine wzb ?_; intro b_) | fail)
    refine cx_cond rfl (fun _ => ?_) (fun h => absurd h (by decide))
    repeat (first | ((first | (apply lx_u; exact rfl) | (apply lx_g; exact rfl; exact rfl)); first | (apply isy_index; exact q_sat rfl rfl rfl (fun _ => ⟨by decide, rfl⟩)) | fail) | (refine isx_call ?_; refine k_gcall (indexByte_fn l x) (fun _ hm => in_nil hm) rfl rfl rfl rfl rfl rfl ?_) | refine wz ?_ | (refine wzb ?_; intro b_) | fail)
    exact bq_ret (ret_tmp rfl rfl) [] (Gives.nil _) rfl ⟨rfl, rfl⟩


theorem index_fn (l : List B8) (x : B8) : Fn Tryz.prog 85 [.string (sb l), .string (sb [x])] [] [] fun v Lo => v = .int .i64 (idx l x) ∧ Lo = [] := by
  refine fn_enter Tryz.func85 rfl rfl (by kernel_rfl) rfl ?_
  intro w0
  repeat (first | (refine isx_call ?_; refine k_gcall (sindex_fn l x) (fun _ hm => in_nil hm) rfl rfl rfl rfl rfl rfl ?_) | refine wz ?_ | (refine wzb ?_; intro b_) | fail)
  exact bq_ret (ret_tmp rfl rfl) [] (Gives.nil _) rfl ⟨rfl, rfl⟩


theorem contains_fn (l : List B8) (x : B8) : Fn Tryz.prog 45 [.string (sb l), .string (sb [x])] [] [] fun v Lo => v = .bool (decide (idx l x ≥ 0)) ∧ Lo = [] := by
  refine fn_enter Tryz.func45 rfl rfl (by kernel_rfl) rfl ?_
  intro w0
  repeat (first | (refine isx_call ?_; refine k_gcall (index_fn l x) (fun _ hm => in_nil hm) rfl rfl rfl rfl rfl rfl ?_) | refine wz ?_ | (refine wzb ?_; intro b_) | fail)
  exact bq_ret (ret_tmp rfl rfl) [] (Gives.nil _) rfl ⟨rfl, rfl⟩

theorem idx_has {k : B8} (h : k.toNat ≤ 8) (q : Pt) : decide (idx (names k) q.ltr ≥ 0) = has k q := by
  rcases le8 h with rfl | rfl | rfl | rfl | rfl | rfl | rfl | rfl | rfl <;> cases q <;> rfl

theorem contains_has {k : B8} (h : k.toNat ≤ 8) (q : Pt) : Fn Tryz.prog 45 [.string (sb (names k)), .string (sb [q.ltr])] [] [] fun v Lo => v = .bool (has k q) ∧ Lo = [] := by
  have := contains_fn (names k) q.ltr
  rwa [idx_has h q] at this

end Go.Proofs.YtmochicneilhhaaGreat.rq
namespace Go.Proofs.YtmochicneilhhaaGreat.rq
open Go.RowKit Go.Proofs.YtmochicneilhhaaGreat.pk
theorem fold_take {α β : Type} {f : β → α → β} {l : List α} {i : Nat} {q : α} (r : β) (h : l[i]? = some q) : (l.take (i + 1)).foldl f r = f ((l.take i).foldl f r) q := by
  rw [List.take_add_one, h, List.foldl_append]
  rfl
theorem bm_u8 (p : Value) (w : World) : (callMethod (.iface 94 (.agg #[])) "tidepool/request.u8" [p].toArray).run Tryz.prog w = .ok (.enter 215 [.agg #[], p].toArray) w := by kernel_rfl
theorem bn_u8 (v : Value) (w : World) : (nilAhead (Tryz.prog.types.size + Made.depth) 94 v "tidepool/request.u8").run Tryz.prog w = .ok (some false) w := by kernel_rfl
theorem bm_u16 (p : Value) (w : World) : (callMethod (.iface 94 (.agg #[])) "tidepool/request.u16" [p].toArray).run Tryz.prog w = .ok (.enter 213 [.agg #[], p].toArray) w := by kernel_rfl
theorem bn_u16 (v : Value) (w : World) : (nilAhead (Tryz.prog.types.size + Made.depth) 94 v "tidepool/request.u16").run Tryz.prog w = .ok (some false) w := by kernel_rfl
theorem bm_u64 (p : Value) (w : World) : (callMethod (.iface 94 (.agg #[])) "tidepool/request.u64" [p].toArray).run Tryz.prog w = .ok (.enter 214 [.agg #[], p].toArray) w := by kernel_rfl
theorem bn_u64 (v : Value) (w : World) : (nilAhead (Tryz.prog.types.size + Made.depth) 94 v "tidepool/request.u64").run Tryz.prog w = .ok (some false) w := by kernel_rfl
theorem bm_whole (p : Value) (w : World) : (callMethod (.iface 94 (.agg #[])) "tidepool/request.whole" [p].toArray).run Tryz.prog w = .ok (.enter 216 [.agg #[], p].toArray) w := by kernel_rfl
theorem bn_whole (v : Value) (w : World) : (nilAhead (Tryz.prog.types.size + Made.depth) 94 v "tidepool/request.whole").run Tryz.prog w = .ok (some false) w := by kernel_rfl
theorem bm_text (p : Value) (w : World) : (callMethod (.iface 94 (.agg #[])) "tidepool/request.text" [p].toArray).run Tryz.prog w = .ok (.enter 212 [.agg #[], p].toArray) w := by kernel_rfl
theorem bn_text (v : Value) (w : World) : (nilAhead (Tryz.prog.types.size + Made.depth) 94 v "tidepool/request.text").run Tryz.prog w = .ok (some false) w := by kernel_rfl
attribute [local irreducible] LX CX Yl Gives RetIs Fn
theorem blank_u8 (b off : Nat) (cs : List Value) (T : TypeId) (h : off + 1 ≤ cs.length) : Fn Tryz.prog 215 [.agg #[], .pointer (some ⟨b, off, none⟩)] [.blk b cs T] [b] fun v Lo => v = .tuple #[] ∧ Lo = [.blk b (setL cs off [.int .u8 0]) T] := by
  refine fn_enter Tryz.func215 rfl rfl (by kernel_rfl) rfl ?_
  intro w0
  repeat (first | (refine isx_store ?_; (refine isx_store ?_; refine lx_storeV (E := EV) 1 rfl rfl rfl rfl rfl rfl rfl rfl h rfl (fun _ => trivial) ?_)) | refine wz ?_ | (refine wzb ?_; intro b_) | fail)
  exact bq_end (ret_none rfl) [_] (Gives.pick [1] (by decide) rfl) rfl ⟨rfl, rfl⟩
theorem blank_u16 (b off : Nat) (cs : List Value) (T : TypeId) (h : off + 1 ≤ cs.length) : Fn Tryz.prog 213 [.agg #[], .pointer (some ⟨b, off, none⟩)] [.blk b cs T] [b] fun v Lo => v = .tuple #[] ∧ Lo = [.blk b (setL cs off [.int .u16 0]) T] := by
  refine fn_enter Tryz.func213 rfl rfl (by kernel_rfl) rfl ?_
  intro w0
  repeat (first | (refine isx_store ?_; (refine isx_store ?_; refine lx_storeV (E := EV) 1 rfl rfl rfl rfl rfl rfl rfl rfl h rfl (fun _ => trivial) ?_)) | refine wz ?_ | (refine wzb ?_; intro b_) | fail)
  exact bq_end (ret_none rfl) [_] (Gives.pick [1] (by decide) rfl) rfl ⟨rfl, rfl⟩
theorem blank_u64 (b off : Nat) (cs : List Value) (T : TypeId) (h : off + 1 ≤ cs.length) : Fn Tryz.prog 214 [.agg #[], .pointer (some ⟨b, off, none⟩)] [.blk b cs T] [b] fun v Lo => v = .tuple #[] ∧ Lo = [.blk b (setL cs off [.int .u64 0]) T] := by
  refine fn_enter Tryz.func214 rfl rfl (by kernel_rfl) rfl ?_
  intro w0
  repeat (first | (refine isx_store ?_; (refine isx_store ?_; refine lx_storeV (E := EV) 1 rfl rfl rfl rfl rfl rfl rfl rfl h rfl (fun _ => trivial) ?_)) | refine wz ?_ | (refine wzb ?_; intro b_) | fail)
  exact bq_end (ret_none rfl) [_] (Gives.pick [1] (by decide) rfl) rfl ⟨rfl, rfl⟩
theorem blank_whole (b off : Nat) (cs : List Value) (T : TypeId) (h : off + 1 ≤ cs.length) : Fn Tryz.prog 216 [.agg #[], .pointer (some ⟨b, off, none⟩)] [.blk b cs T] [b] fun v Lo => v = .tuple #[] ∧ Lo = [.blk b (setL cs off [.int .i64 0]) T] := by
  refine fn_enter Tryz.func216 rfl rfl (by kernel_rfl) rfl ?_
  intro w0
  repeat (first | (refine isx_store ?_; (refine isx_store ?_; refine lx_storeV (E := EV) 1 rfl rfl rfl rfl rfl rfl rfl rfl h rfl (fun _ => trivial) ?_)) | refine wz ?_ | (refine wzb ?_; intro b_) | fail)
  exact bq_end (ret_none rfl) [_] (Gives.pick [1] (by decide) rfl) rfl ⟨rfl, rfl⟩
theorem blank_text (b off : Nat) (cs : List Value) (T : TypeId) (h : off + 1 ≤ cs.length) : Fn Tryz.prog 212 [.agg #[], .pointer (some ⟨b, off, none⟩)] [.blk b cs T] [b] fun v Lo => v = .tuple #[] ∧ Lo = [.blk b (setL cs off [.string (sb [])]) T] := by
  refine fn_enter Tryz.func212 rfl rfl (by kernel_rfl) rfl ?_
  intro w0
  repeat (first | (refine isx_store ?_; (refine isx_store ?_; refine lx_storeV (E := EV) 1 rfl rfl rfl rfl rfl rfl rfl rfl h rfl (fun _ => trivial) ?_)) | refine wz ?_ | (refine wzb ?_; intro b_) | fail)
  exact bq_end (ret_none rfl) [_] (Gives.pick [1] (by decide) rfl) rfl ⟨rfl, rfl⟩

set_option maxHeartbeats 8000000 in
theorem visit_blank (b : Nat) (r : RQ) (h : r.k.toNat ≤ 8) : Fn Tryz.prog 47 [.pointer (some ⟨b, 0, none⟩), .iface 94 (.agg #[])] [.blk b r.cells 52] [b]
    fun v Lo => v = .tuple #[] ∧ Lo = [.blk b ((pts r.k).foldl RQ.blank r).cells 52] := by
  have hnl := names_len r.k
  have hp := parts_fn r.k h
  refine fn_enter Tryz.func47 rfl rfl (by kernel_rfl) rfl ?_
  intro w0
  repeat (first | (refine isx_call ?_; refine k_gcall (hp) (fun _ hm => in_nil hm) rfl rfl rfl rfl rfl rfl ?_) | (refine isx_range ?_; refine lx_range (E := EV) rfl rfl rfl rfl rfl rfl rfl (fun _ _ => trivial) ?_; intro bi) | refine wz ?_ | (refine wzb ?_; intro b_) | fail)
  refine cx_loop (α := { i : Nat // i ≤ (pts r.k).length }) (fun x => [(0, none, .pointer (some ⟨b, 0, none⟩)), (1, none, .iface 94 (.agg #[])), (11, none, .pointer (some ⟨bi, 0, none⟩))])
    (fun x => [.obj bi (.stringIter (sb (names r.k)) x.1), .blk b (((pts r.k).take x.1).foldl RQ.blank r).cells 52]) (fun x => (pts r.k).length - x.1) ⟨0, Nat.zero_le _⟩ ⟨rfl, rfl, rfl, trivial⟩ (Gives.refl _) ?_
  rintro ⟨i, hi⟩
  dsimp only
  generalize hr1 : ((pts r.k).take i).foldl RQ.blank r = r1
  by_cases hlt : i < (pts r.k).length
  · obtain ⟨q, hq⟩ : ∃ q, (pts r.k)[i]? = some q := ⟨_, List.getElem?_eq_getElem hlt⟩
    have hx := dec_ascii (names_get hq) (ltr_lt q)
    have hsz : i < (sb (names r.k)).size := by rw [sb_size, hnl]; exact hlt
    have hnx : (((pts r.k).take (i + 1)).foldl RQ.blank r) = r1.blank q := by rw [fold_take r hq, hr1]
    repeat (first | (refine isx_next ?_; refine lx_next 0 rfl rfl rfl rfl rfl rfl rfl hsz hx (fun _ => trivial) ?_) | refine wz ?_ | (refine wzb ?_; intro b_) | fail)
    refine cx_cond rfl (fun _ => ?_) (fun h => absurd h (by decide))
    cases q
    · skip
      repeat (first | refine wz ?_ | (refine wzb ?_; intro b_) | fail)
      refine cx_cond rfl (fun _ => ?_) (fun h => absurd h (by decide))
      repeat (first | refine wz ?_ | (refine wzb ?_; intro b_) | fail)
      refine cx_draw [7] [] rfl (by kernel_rfl) (Gives.nil _) ?_
      repeat (first | ((first | (apply lx_u; exact rfl) | (apply lx_g; exact rfl; exact rfl)); first | exact yl_makeMeth rfl rfl (by (repeat (first | exact trivial | refine And.intro ?_ ?_ | exact fun _ => rfl | exact fun h => h | exact fun h => (Bool.and_eq_true_iff.1 h).1)); done) (by (repeat (first | exact trivial | refine And.intro ?_ ?_ | exact fun _ => rfl | exact fun h => h | exact fun h => (Bool.and_eq_true_iff.1 h).1)); done) | exact yl_nilMeth rfl (bn_u64 _) (by first | exact fun _ => rfl | exact fun h => h | exact fun h => (Bool.and_eq_true_iff.1 h).1) | fail) | (refine isx_icall ?_; refine k_icall (blank_u64 b 4 r1.cells _ (Nat.le_of_ble_eq_true rfl)) (bm_u64 _) [1] [1] [0] rfl rfl rfl rfl rfl rfl rfl ?_ (hgs := fun Lo _ => (Gives.right Lo _).trans (Gives.pick [] (by decide) rfl)); rintro v_ Lo_ ⟨rfl, rfl⟩) | refine wz ?_ | (refine wzb ?_; intro b_) | fail)
      exact ⟨⟨i + 1, hlt⟩, ⟨rfl, rfl, rfl, trivial⟩, by dsimp only; rw [hnx]; exact Gives.pick [1, 0] (by decide) rfl, by dsimp only; omega⟩
    · skip
      repeat (first | refine wz ?_ | (refine wzb ?_; intro b_) | fail)
      refine cx_cond rfl (fun h => absurd h (by decide)) (fun _ => ?_)
      repeat (first | refine wz ?_ | (refine wzb ?_; intro b_) | fail)
      refine cx_cond rfl (fun _ => ?_) (fun h => absurd h (by decide))
      repeat (first | refine wz ?_ | (refine wzb ?_; intro b_) | fail)
      refine cx_draw [7] [] rfl (by kernel_rfl) (Gives.nil _) ?_
      repeat (first | ((first | (apply lx_u; exact rfl) | (apply lx_g; exact rfl; exact rfl)); first | exact yl_makeMeth rfl rfl (by (repeat (first | exact trivial | refine And.intro ?_ ?_ | exact fun _ => rfl | exact fun h => h | exact fun h => (Bool.and_eq_true_iff.1 h).1)); done) (by (repeat (first | exact trivial | refine And.intro ?_ ?_ | exact fun _ => rfl | exact fun h => h | exact fun h => (Bool.and_eq_true_iff.1 h).1)); done) | exact yl_nilMeth rfl (bn_u64 _) (by first | exact fun _ => rfl | exact fun h => h | exact fun h => (Bool.and_eq_true_iff.1 h).1) | fail) | (refine isx_icall ?_; refine k_icall (blank_u64 b 5 r1.cells _ (Nat.le_of_ble_eq_true rfl)) (bm_u64 _) [1] [1] [0] rfl rfl rfl rfl rfl rfl rfl ?_ (hgs := fun Lo _ => (Gives.right Lo _).trans (Gives.pick [] (by decide) rfl)); rintro v_ Lo_ ⟨rfl, rfl⟩) | refine wz ?_ | (refine wzb ?_; intro b_) | fail)
      exact ⟨⟨i + 1, hlt⟩, ⟨rfl, rfl, rfl, trivial⟩, by dsimp only; rw [hnx]; exact Gives.pick [1, 0] (by decide) rfl, by dsimp only; omega⟩
    · skip
      repeat (first | refine wz ?_ | (refine wzb ?_; intro b_) | fail)
      refine cx_cond rfl (fun h => absurd h (by decide)) (fun _ => ?_)
      repeat (first | refine wz ?_ | (refine wzb ?_; intro b_) | fail)
      refine cx_cond rfl (fun h => absurd h (by decide)) (fun _ => ?_)
      repeat (first | refine wz ?_ | (refine wzb ?_; intro b_) | fail)
      refine cx_cond rfl (fun _ => ?_) (fun h => absurd h (by decide))
      repeat (first | refine wz ?_ | (refine wzb ?_; intro b_) | fail)
      refine cx_draw [7] [] rfl (by kernel_rfl) (Gives.nil _) ?_
      repeat (first | ((first | (apply lx_u; exact rfl) | (apply lx_g; exact rfl; exact rfl)); first | exact yl_makeMeth rfl rfl (by (repeat (first | exact trivial | refine And.intro ?_ ?_ | exact fun _ => rfl | exact fun h => h | exact fun h => (Bool.and_eq_true_iff.1 h).1)); done) (by (repeat (first | exact trivial | refine And.intro ?_ ?_ | exact fun _ => rfl | exact fun h => h | exact fun h => (Bool.and_eq_true_iff.1 h).1)); done) | exact yl_nilMeth rfl (bn_u8 _) (by first | exact fun _ => rfl | exact fun h => h | exact fun h => (Bool.and_eq_true_iff.1 h).1) | fail) | (refine isx_icall ?_; refine k_icall (blank_u8 b 2 r1.cells _ (Nat.le_of_ble_eq_true rfl)) (bm_u8 _) [1] [1] [0] rfl rfl rfl rfl rfl rfl rfl ?_ (hgs := fun Lo _ => (Gives.right Lo _).trans (Gives.pick [] (by decide) rfl)); rintro v_ Lo_ ⟨rfl, rfl⟩) | refine wz ?_ | (refine wzb ?_; intro b_) | fail)
      exact ⟨⟨i + 1, hlt⟩, ⟨rfl, rfl, rfl, trivial⟩, by dsimp only; rw [hnx]; exact Gives.pick [1, 0] (by decide) rfl, by dsimp only; omega⟩
    · skip
      repeat (first | refine wz ?_ | (refine wzb ?_; intro b_) | fail)
      refine cx_cond rfl (fun h => absurd h (by decide)) (fun _ => ?_)
      repeat (first | refine wz ?_ | (refine wzb ?_; intro b_) | fail)
      refine cx_cond rfl (fun h => absurd h (by decide)) (fun _ => ?_)
      repeat (first | refine wz ?_ | (refine wzb ?_; intro b_) | fail)
      refine cx_cond rfl (fun h => absurd h (by decide)) (fun _ => ?_)
      repeat (first | refine wz ?_ | (refine wzb ?_; intro b_) | fail)
      refine cx_cond rfl (fun _ => ?_) (fun h => absurd h (by decide))
      repeat (first | refine wz ?_ | (refine wzb ?_; intro b_) | fail)
      refine cx_draw [7] [] rfl (by kernel_rfl) (Gives.nil _) ?_
      repeat (first | ((first | (apply lx_u; exact rfl) | (apply lx_g; exact rfl; exact rfl)); first | exact yl_makeMeth rfl rfl (by (repeat (first | exact trivial | refine And.intro ?_ ?_ | exact fun _ => rfl | exact fun h => h | exact fun h => (Bool.and_eq_true_iff.1 h).1)); done) (by (repeat (first | exact trivial | refine And.intro ?_ ?_ | exact fun _ => rfl | exact fun h => h | exact fun h => (Bool.and_eq_true_iff.1 h).1)); done) | exact yl_nilMeth rfl (bn_u16 _) (by first | exact fun _ => rfl | exact fun h => h | exact fun h => (Bool.and_eq_true_iff.1 h).1) | fail) | (refine isx_icall ?_; refine k_icall (blank_u16 b 3 r1.cells _ (Nat.le_of_ble_eq_true rfl)) (bm_u16 _) [1] [1] [0] rfl rfl rfl rfl rfl rfl rfl ?_ (hgs := fun Lo _ => (Gives.right Lo _).trans (Gives.pick [] (by decide) rfl)); rintro v_ Lo_ ⟨rfl, rfl⟩) | refine wz ?_ | (refine wzb ?_; intro b_) | fail)
      exact ⟨⟨i + 1, hlt⟩, ⟨rfl, rfl, rfl, trivial⟩, by dsimp only; rw [hnx]; exact Gives.pick [1, 0] (by decide) rfl, by dsimp only; omega⟩
    · skip
      repeat (first | refine wz ?_ | (refine wzb ?_; intro b_) | fail)
      refine cx_cond rfl (fun h => absurd h (by decide)) (fun _ => ?_)
      repeat (first | refine wz ?_ | (refine wzb ?_; intro b_) | fail)
      refine cx_cond rfl (fun h => absurd h (by decide)) (fun _ => ?_)
      repeat (first | refine wz ?_ | (refine wzb ?_; intro b_) | fail)
      refine cx_cond rfl (fun h => absurd h (by decide)) (fun _ => ?_)
      repeat (first | refine wz ?_ | (refine wzb ?_; intro b_) | fail)
      refine cx_cond rfl (fun h => absurd h (by decide)) (fun _ => ?_)
      repeat (first | refine wz ?_ | (refine wzb ?_; intro b_) | fail)
      refine cx_cond rfl (fun _ => ?_) (fun h => absurd h (by decide))
      repeat (first | refine wz ?_ | (refine wzb ?_; intro b_) | fail)
      refine cx_draw [7] [] rfl (by kernel_rfl) (Gives.nil _) ?_
      repeat (first | ((first | (apply lx_u; exact rfl) | (apply lx_g; exact rfl; exact rfl)); first | exact yl_makeMeth rfl rfl (by (repeat (first | exact trivial | refine And.intro ?_ ?_ | exact fun _ => rfl | exact fun h => h | exact fun h => (Bool.and_eq_true_iff.1 h).1)); done) (by (repeat (first | exact trivial | refine And.intro ?_ ?_ | exact fun _ => rfl | exact fun h => h | exact fun h => (Bool.and_eq_true_iff.1 h).1)); done) | exact yl_nilMeth rfl (bn_u8 _) (by first | exact fun _ => rfl | exact fun h => h | exact fun h => (Bool.and_eq_true_iff.1 h).1) | fail) | (refine isx_icall ?_; refine k_icall (blank_u8 b 6 r1.cells _ (Nat.le_of_ble_eq_true rfl)) (bm_u8 _) [1] [1] [0] rfl rfl rfl rfl rfl rfl rfl ?_ (hgs := fun Lo _ => (Gives.right Lo _).trans (Gives.pick [] (by decide) rfl)); rintro v_ Lo_ ⟨rfl, rfl⟩) | refine wz ?_ | (refine wzb ?_; intro b_) | fail)
      refine cx_draw [7] [] rfl (by kernel_rfl) (Gives.nil _) ?_
      repeat (first | ((first | (apply lx_u; exact rfl) | (apply lx_g; exact rfl; exact rfl)); first | exact yl_makeMeth rfl rfl (by (repeat (first | exact trivial | refine And.intro ?_ ?_ | exact fun _ => rfl | exact fun h => h | exact fun h => (Bool.and_eq_true_iff.1 h).1)); done) (by (repeat (first | exact trivial | refine And.intro ?_ ?_ | exact fun _ => rfl | exact fun h => h | exact fun h => (Bool.and_eq_true_iff.1 h).1)); done) | exact yl_nilMeth rfl (bn_text _) (by first | exact fun _ => rfl | exact fun h => h | exact fun h => (Bool.and_eq_true_iff.1 h).1) | fail) | (refine isx_icall ?_; refine k_icall (blank_text b 7 _ _ (Nat.le_of_ble_eq_true rfl)) (bm_text _) [0] [0] [1] rfl rfl rfl rfl rfl rfl rfl ?_ (hgs := fun Lo _ => (Gives.right Lo _).trans (Gives.pick [] (by decide) rfl)); rintro v_ Lo_ ⟨rfl, rfl⟩) | refine wz ?_ | (refine wzb ?_; intro b_) | fail)
      refine cx_draw [7] [] rfl (by kernel_rfl) (Gives.nil _) ?_
      repeat (first | ((first | (apply lx_u; exact rfl) | (apply lx_g; exact rfl; exact rfl)); first | exact yl_makeMeth rfl rfl (by (repeat (first | exact trivial | refine And.intro ?_ ?_ | exact fun _ => rfl | exact fun h => h | exact fun h => (Bool.and_eq_true_iff.1 h).1)); done) (by (repeat (first | exact trivial | refine And.intro ?_ ?_ | exact fun _ => rfl | exact fun h => h | exact fun h => (Bool.and_eq_true_iff.1 h).1)); done) | exact yl_nilMeth rfl (bn_text _) (by first | exact fun _ => rfl | exact fun h => h | exact fun h => (Bool.and_eq_true_iff.1 h).1) | fail) | (refine isx_icall ?_; refine k_icall (blank_text b 8 _ _ (Nat.le_of_ble_eq_true rfl)) (bm_text _) [0] [0] [1] rfl rfl rfl rfl rfl rfl rfl ?_ (hgs := fun Lo _ => (Gives.right Lo _).trans (Gives.pick [] (by decide) rfl)); rintro v_ Lo_ ⟨rfl, rfl⟩) | refine wz ?_ | (refine wzb ?_; intro b_) | fail)
      refine cx_draw [7] [] rfl (by kernel_rfl) (Gives.nil _) ?_
      repeat (first | ((first | (apply lx_u; exact rfl) | (apply lx_g; exact rfl; exact rfl)); first | exact yl_makeMeth rfl rfl (by (repeat (first | exact trivial | refine And.intro ?_ ?_ | exact fun _ => rfl | exact fun h => h | exact fun h => (Bool.and_eq_true_iff.1 h).1)); done) (by (repeat (first | exact trivial | refine And.intro ?_ ?_ | exact fun _ => rfl | exact fun h => h | exact fun h => (Bool.and_eq_true_iff.1 h).1)); done) | exact yl_nilMeth rfl (bn_whole _) (by first | exact fun _ => rfl | exact fun h => h | exact fun h => (Bool.and_eq_true_iff.1 h).1) | fail) | (refine isx_icall ?_; refine k_icall (blank_whole b 9 _ _ (Nat.le_of_ble_eq_true rfl)) (bm_whole _) [0] [0] [1] rfl rfl rfl rfl rfl rfl rfl ?_ (hgs := fun Lo _ => (Gives.right Lo _).trans (Gives.pick [] (by decide) rfl)); rintro v_ Lo_ ⟨rfl, rfl⟩) | refine wz ?_ | (refine wzb ?_; intro b_) | fail)
      refine cx_draw [7] [] rfl (by kernel_rfl) (Gives.nil _) ?_
      repeat (first | ((first | (apply lx_u; exact rfl) | (apply lx_g; exact rfl; exact rfl)); first | exact yl_makeMeth rfl rfl (by (repeat (first | exact trivial | refine And.intro ?_ ?_ | exact fun _ => rfl | exact fun h => h | exact fun h => (Bool.and_eq_true_iff.1 h).1)); done) (by (repeat (first | exact trivial | refine And.intro ?_ ?_ | exact fun _ => rfl | exact fun h => h | exact fun h => (Bool.and_eq_true_iff.1 h).1)); done) | exact yl_nilMeth rfl (bn_whole _) (by first | exact fun _ => rfl | exact fun h => h | exact fun h => (Bool.and_eq_true_iff.1 h).1) | fail) | (refine isx_icall ?_; refine k_icall (blank_whole b 10 _ _ (Nat.le_of_ble_eq_true rfl)) (bm_whole _) [0] [0] [1] rfl rfl rfl rfl rfl rfl rfl ?_ (hgs := fun Lo _ => (Gives.right Lo _).trans (Gives.pick [] (by decide) rfl)); rintro v_ Lo_ ⟨rfl, rfl⟩) | refine wz ?_ | (refine wzb ?_; intro b_) | fail)
      exact ⟨⟨i + 1, hlt⟩, ⟨rfl, rfl, rfl, trivial⟩, by dsimp only; rw [hnx]; exact Gives.pick [1, 0] (by decide) rfl, by dsimp only; omega⟩
  · obtain rfl : i = (pts r.k).length := by omega
    have hsz : ¬ (pts r.k).length < (sb (names r.k)).size := by rw [sb_size, hnl]; exact Nat.lt_irrefl _
    rw [List.take_length] at hr1
    repeat (first | (refine isx_next ?_; refine lx_nextEnd 0 rfl rfl rfl rfl rfl rfl rfl hsz ?_) | refine wz ?_ | (refine wzb ?_; intro b_) | fail)
    refine cx_cond rfl (fun h => absurd h (by decide)) (fun _ => ?_)
    repeat (first | refine wz ?_ | (refine wzb ?_; intro b_) | fail)
    exact bq_end (ret_none rfl) [_] (Gives.pick [1] (by decide) rfl) rfl ⟨rfl, by rw [hr1]⟩

end Go.Proofs.YtmochicneilhhaaGreat.rq
namespace Go.Proofs.YtmochicneilhhaaGreat.rq
open Go.RowKit Go.Proofs.YtmochicneilhhaaGreat.pk
theorem max_long (r : RQ) (mx : Int) (h : (if (r.to_.length : Int) > (r.ky.length : Int) then (r.to_.length : Int) else (r.ky.length : Int)) = mx) : decide (mx > 32) = r.long := by
  rw [RQ.long, ← h]
  split <;> (rw [Bool.eq_iff_iff]; simp; omega)
attribute [local irreducible] LX CX Yl Gives RetIs Fn

set_option maxHeartbeats 4000000 in
theorem which_fn (r : RQ) : Fn Tryz.prog 46 [r.val] [] [] fun v Lo => v = .bool r.which ∧ Lo = [] := by
  generalize hmx : (if (r.to_.length : Int) > (r.ky.length : Int) then (r.to_.length : Int) else (r.ky.length : Int)) = mx
  have hL := max_long r mx hmx
  generalize hl : r.long = L at hL
  refine fn_enter Tryz.func46 rfl rfl (by kernel_rfl) rfl ?_
  intro w0
  repeat (first | ((first | (apply lx_u; exact rfl) | (apply lx_g; exact rfl; exact rfl)); first | (apply isy_blt; exact q_slen rfl rfl) | exact yl_eq (yl_op (E := EV) (v := .int .i64 (if (r.to_.length : Int) > (r.ky.length : Int) then (r.to_.length : Int) else (r.ky.length : Int))) rfl) (fun _ => congrArg (Value.int .i64) hmx) | (apply isy_bin; exact yl_eq (yl_op (E := EV) rfl) (fun _ => congrArg Value.bool hL)) | (apply isy_bin_eql; exact q_beq r.so 1#8 rfl rfl rfl rfl) | fail) | refine wz ?_ | (refine wzb ?_; intro b_) | fail)
  refine cx_cond rfl (fun h => ?_) (fun h => ?_)
  · have h1 : r.so = 1#8 := by simpa using h
    have e : r.which = (r.ky != [] && !L && r.to_ == [] && r.ms == 0) := by rw [RQ.which, if_pos h1, hl]
    repeat (first | ((first | (apply lx_u; exact rfl) | (apply lx_g; exact rfl; exact rfl)); first | (apply isy_bin_neq; exact q_sne r.ky [] rfl rfl) | (apply isy_bin_eql; exact q_seq r.to_ [] rfl rfl) | fail) | refine wz ?_ | (refine wzb ?_; intro b_) | fail)
    exact bq_ret (ret_tmp rfl rfl) [] (Gives.nil _) rfl ⟨by rw [e], rfl⟩
  have h1 : r.so ≠ 1#8 := by simpa using h
  repeat (first | ((first | (apply lx_u; exact rfl) | (apply lx_g; exact rfl; exact rfl)); first | (apply isy_bin_eql; exact q_beq r.so 2#8 rfl rfl rfl rfl) | fail) | refine wz ?_ | (refine wzb ?_; intro b_) | fail)
  refine cx_cond rfl (fun h => ?_) (fun h => ?_)
  · have h2 : r.so = 2#8 := by simpa using h
    have e : r.which = (!L && r.ls == 0 && r.ms == 0) := by rw [RQ.which, if_neg h1, if_pos h2, hl]
    repeat (first | refine wz ?_ | (refine wzb ?_; intro b_) | fail)
    exact bq_ret (ret_tmp rfl rfl) [] (Gives.nil _) rfl ⟨by rw [e], rfl⟩
  have h2 : r.so ≠ 2#8 := by simpa using h
  repeat (first | ((first | (apply lx_u; exact rfl) | (apply lx_g; exact rfl; exact rfl)); first | (apply isy_bin_eql; exact q_beq r.so 3#8 rfl rfl rfl rfl) | fail) | refine wz ?_ | (refine wzb ?_; intro b_) | fail)
  refine cx_cond rfl (fun h => ?_) (fun h => ?_)
  · have h3 : r.so = 3#8 := by simpa using h
    have e : r.which = (r.ky == [] && r.to_ == []) := by rw [RQ.which, if_neg h1, if_neg h2, if_pos h3]
    repeat (first | ((first | (apply lx_u; exact rfl) | (apply lx_g; exact rfl; exact rfl)); first | (apply isy_bin_eql; exact q_seq r.ky [] rfl rfl) | (apply isy_bin_eql; exact q_seq r.to_ [] rfl rfl) | fail) | refine wz ?_ | (refine wzb ?_; intro b_) | fail)
    exact bq_ret (ret_tmp rfl rfl) [] (Gives.nil _) rfl ⟨by rw [e], rfl⟩
  have h3 : r.so ≠ 3#8 := by simpa using h
  have e : r.which = false := by rw [RQ.which, if_neg h1, if_neg h2, if_neg h3]
  repeat (first | refine wz ?_ | (refine wzb ?_; intro b_) | fail)
  exact bq_ret (ret_tmp rfl rfl) [] (Gives.nil _) rfl ⟨by rw [e], rfl⟩

theorem pos_ne (l : List B8) : decide ((l.length : Int) > 0) = (l != []) := by
  cases l with
  | nil => rfl
  | cons x l => rw [decide_eq_true (by rw [List.length_cons]; omega)]; rfl

set_option maxHeartbeats 4000000 in
theorem rwhich_fn (r : RQ) : Fn Tryz.prog 105 [r.val] [] [] fun v Lo => v = .bool r.which ∧ Lo = [] := by
  have hky := pos_ne r.ky
  refine fn_enter Tryz.func105 rfl rfl (by kernel_rfl) rfl ?_
  intro w0
  repeat (first | ((first | (apply lx_u; exact rfl) | (apply lx_g; exact rfl; exact rfl)); first | (apply isy_blt; exact q_slen rfl rfl) | fail) | refine wz ?_ | (refine wzb ?_; intro b_) | fail)
  refine cx_cond rfl (fun h => ?_) (fun h => ?_)
  · have hl : r.long = true := by simp [RQ.long] at h ⊢; omega
    repeat (first | refine wz ?_ | (refine wzb ?_; intro b_) | fail)
    exact bq_ret (ret_tmp rfl rfl) [] (Gives.nil _) rfl ⟨by rw [RQ.long_which hl], rfl⟩
  have hl : r.long = false := by simp [RQ.long] at h ⊢; omega
  repeat (first | ((first | (apply lx_u; exact rfl) | (apply lx_g; exact rfl; exact rfl)); first | (apply isy_bin_eql; exact q_beq r.so 1#8 rfl rfl rfl rfl) | fail) | refine wz ?_ | (refine wzb ?_; intro b_) | fail)
  refine cx_cond rfl (fun h => ?_) (fun h => ?_)
  · have h1 : r.so = 1#8 := by simpa using h
    have e : r.which = (r.ky != [] && r.to_ == [] && r.ms == 0) := by rw [RQ.which, if_pos h1, hl, Bool.not_false, Bool.and_true]
    repeat (first | ((first | (apply lx_u; exact rfl) | (apply lx_g; exact rfl; exact rfl)); first | (apply isy_blt; exact q_slen rfl rfl) | (apply isy_bin_eql; exact q_seq r.to_ [] rfl rfl) | (apply isy_bin; exact yl_eq (yl_op (E := EV) rfl) (fun _ => congrArg Value.bool hky)) | fail) | refine wz ?_ | (refine wzb ?_; intro b_) | fail)
    exact bq_ret (ret_tmp rfl rfl) [] (Gives.nil _) rfl ⟨by rw [e], rfl⟩
  have h1 : r.so ≠ 1#8 := by simpa using h
  repeat (first | ((first | (apply lx_u; exact rfl) | (apply lx_g; exact rfl; exact rfl)); first | (apply isy_bin_eql; exact q_beq r.so 2#8 rfl rfl rfl rfl) | fail) | refine wz ?_ | (refine wzb ?_; intro b_) | fail)
  refine cx_cond rfl (fun h => ?_) (fun h => ?_)
  · have h2 : r.so = 2#8 := by simpa using h
    have e : r.which = (r.ls == 0 && r.ms == 0) := by rw [RQ.which, if_neg h1, if_pos h2, hl, Bool.not_false, Bool.true_and]
    repeat (first | refine wz ?_ | (refine wzb ?_; intro b_) | fail)
    exact bq_ret (ret_tmp rfl rfl) [] (Gives.nil _) rfl ⟨by rw [e], rfl⟩
  have h2 : r.so ≠ 2#8 := by simpa using h
  repeat (first | ((first | (apply lx_u; exact rfl) | (apply lx_g; exact rfl; exact rfl)); first | (apply isy_bin_eql; exact q_beq r.so 3#8 rfl rfl rfl rfl) | fail) | refine wz ?_ | (refine wzb ?_; intro b_) | fail)
  refine cx_cond rfl (fun h => ?_) (fun h => ?_)
  · have h3 : r.so = 3#8 := by simpa using h
    have e : r.which = (r.ky == [] && r.to_ == []) := by rw [RQ.which, if_neg h1, if_neg h2, if_pos h3]
    repeat (first | ((first | (apply lx_u; exact rfl) | (apply lx_g; exact rfl; exact rfl)); first | (apply isy_bin_eql; exact q_seq r.ky [] rfl rfl) | (apply isy_bin_eql; exact q_seq r.to_ [] rfl rfl) | fail) | refine wz ?_ | (refine wzb ?_; intro b_) | fail)
    exact bq_ret (ret_tmp rfl rfl) [] (Gives.nil _) rfl ⟨by rw [e], rfl⟩
  have h3 : r.so ≠ 3#8 := by simpa using h
  have e : r.which = false := by rw [RQ.which, if_neg h1, if_neg h2, if_neg h3]
  repeat (first | refine wz ?_ | (refine wzb ?_; intro b_) | fail)
  exact bq_ret (ret_tmp rfl rfl) [] (Gives.nil _) rfl ⟨by rw [e], rfl⟩

def RQ.o1 (r : RQ) : RQ := ⟨r.k, r.id, 0#8, 0#16, if has r.k .a then r.at_ else 0#64, 0#64, 0#8, [], [], 0, 0⟩
def RQ.o2 (r : RQ) : RQ := { r.o1 with le := if has r.k .l then r.le else 0#64 }
def RQ.o3 (r : RQ) : RQ := { r.o2 with pg := if has r.k .p then r.pg else 0#8 }
def RQ.o4 (r : RQ) : RQ := { r.o3 with du := if has r.k .d then r.du else 0#16 }

set_option maxHeartbeats 8000000 in
theorem only_fn (r : RQ) : Fn Tryz.prog 104 [r.val] [] [] fun v Lo => v = r.only.val ∧ Lo = [] := by
  obtain ⟨ha, hl, hp, hd, hw⟩ := has_eq r.k
  refine fn_enter Tryz.func104 rfl rfl (by kernel_rfl) rfl ?_
  intro w0
  repeat (first | ((first | (apply lx_u; exact rfl) | (apply lx_g; exact rfl; exact rfl)); first | (apply isy_bin_eql; exact q_beq r.k 1#8 rfl rfl rfl rfl) | (apply isy_bin_eql; exact q_beq r.k 2#8 rfl rfl rfl rfl) | fail) | refine wz ?_ | (refine wzb ?_; intro b_) | fail)
  rename_i b1 b2
  generalize b_ = b3
  refine cx_to (α := Unit) (fun _ => [(1, none, .pointer (some ⟨b1, 0, none⟩)), (2, none, .pointer (some ⟨b2, 0, none⟩)), (3, none, .pointer (some ⟨b3, 0, none⟩))]) (fun _ => [.blk b3 (RQ.o1 r).cells 53, .blk b2 zeroQ.cells 53, .blk b1 r.cells 53]) ?_ ?_
  · refine cx_cond rfl (fun h => ?_) (fun h => ?_)
    · rw [← ha] at h
      have e : RQ.o1 r = ⟨r.k, r.id, 0#8, 0#16, r.at_, 0#64, 0#8, [], [], 0, 0⟩ := by rw [RQ.o1, h]; rfl
      rw [e]
      repeat (first | refine wz ?_ | (refine wzb ?_; intro b_) | fail)
      exact ⟨(), ⟨rfl, rfl, rfl, trivial⟩, Gives.refl _⟩
    · rw [← ha] at h
      have e : RQ.o1 r = ⟨r.k, r.id, 0#8, 0#16, 0#64, 0#64, 0#8, [], [], 0, 0⟩ := by rw [RQ.o1, h]; rfl
      rw [e]
      repeat (first | refine wz ?_ | (refine wzb ?_; intro b_) | fail)
      exact ⟨(), ⟨rfl, rfl, rfl, trivial⟩, Gives.refl _⟩
  intro _
  repeat (first | ((first | (apply lx_u; exact rfl) | (apply lx_g; exact rfl; exact rfl)); first | (apply isy_bin_eql; exact q_beq r.k 3#8 rfl rfl rfl rfl) | (apply isy_bin_eql; exact q_beq r.k 4#8 rfl rfl rfl rfl) | (apply isy_bin_eql; exact q_beq r.k 6#8 rfl rfl rfl rfl) | (apply isy_bin_eql; exact q_beq r.k 7#8 rfl rfl rfl rfl) | fail) | refine wz ?_ | (refine wzb ?_; intro b_) | fail)
  refine cx_to (α := Unit) (fun _ => [(1, none, .pointer (some ⟨b1, 0, none⟩)), (2, none, .pointer (some ⟨b2, 0, none⟩)), (3, none, .pointer (some ⟨b3, 0, none⟩))]) (fun _ => [.blk b3 (RQ.o2 r).cells 53, .blk b2 zeroQ.cells 53, .blk b1 r.cells 53]) ?_ ?_
  · refine cx_cond rfl (fun h => ?_) (fun h => ?_)
    · rw [← hl] at h
      have e : RQ.o2 r = { RQ.o1 r with le := r.le } := by rw [RQ.o2, h]; rfl
      rw [e]
      repeat (first | refine wz ?_ | (refine wzb ?_; intro b_) | fail)
      exact ⟨(), ⟨rfl, rfl, rfl, trivial⟩, Gives.refl _⟩
    · rw [← hl] at h
      have e : RQ.o2 r = RQ.o1 r := by rw [RQ.o2, h]; rfl
      rw [e]
      repeat (first | refine wz ?_ | (refine wzb ?_; intro b_) | fail)
      exact ⟨(), ⟨rfl, rfl, rfl, trivial⟩, Gives.refl _⟩
  intro _
  repeat (first | ((first | (apply lx_u; exact rfl) | (apply lx_g; exact rfl; exact rfl)); first | (apply isy_bin_eql; exact q_beq r.k 1#8 rfl rfl rfl rfl) | (apply isy_bin_eql; exact q_beq r.k 6#8 rfl rfl rfl rfl) | fail) | refine wz ?_ | (refine wzb ?_; intro b_) | fail)
  refine cx_to (α := Unit) (fun _ => [(1, none, .pointer (some ⟨b1, 0, none⟩)), (2, none, .pointer (some ⟨b2, 0, none⟩)), (3, none, .pointer (some ⟨b3, 0, none⟩))]) (fun _ => [.blk b3 (RQ.o3 r).cells 53, .blk b2 zeroQ.cells 53, .blk b1 r.cells 53]) ?_ ?_
  · refine cx_cond rfl (fun h => ?_) (fun h => ?_)
    · rw [← hp] at h
      have e : RQ.o3 r = { RQ.o2 r with pg := r.pg } := by rw [RQ.o3, h]; rfl
      rw [e]
      repeat (first | refine wz ?_ | (refine wzb ?_; intro b_) | fail)
      exact ⟨(), ⟨rfl, rfl, rfl, trivial⟩, Gives.refl _⟩
    · rw [← hp] at h
      have e : RQ.o3 r = RQ.o2 r := by rw [RQ.o3, h]; rfl
      rw [e]
      repeat (first | refine wz ?_ | (refine wzb ?_; intro b_) | fail)
      exact ⟨(), ⟨rfl, rfl, rfl, trivial⟩, Gives.refl _⟩
  intro _
  repeat (first | ((first | (apply lx_u; exact rfl) | (apply lx_g; exact rfl; exact rfl)); first | (apply isy_bin_eql; exact q_beq r.k 2#8 rfl rfl rfl rfl) | (apply isy_bin_eql; exact q_beq r.k 3#8 rfl rfl rfl rfl) | (apply isy_bin_eql; exact q_beq r.k 5#8 rfl rfl rfl rfl) | (apply isy_bin_eql; exact q_beq r.k 6#8 rfl rfl rfl rfl) | fail) | refine wz ?_ | (refine wzb ?_; intro b_) | fail)
  refine cx_to (α := Unit) (fun _ => [(1, none, .pointer (some ⟨b1, 0, none⟩)), (2, none, .pointer (some ⟨b2, 0, none⟩)), (3, none, .pointer (some ⟨b3, 0, none⟩))]) (fun _ => [.blk b3 (RQ.o4 r).cells 53, .blk b2 zeroQ.cells 53, .blk b1 r.cells 53]) ?_ ?_
  · refine cx_cond rfl (fun h => ?_) (fun h => ?_)
    · rw [← hd] at h
      have e : RQ.o4 r = { RQ.o3 r with du := r.du } := by rw [RQ.o4, h]; rfl
      rw [e]
      repeat (first | refine wz ?_ | (refine wzb ?_; intro b_) | fail)
      exact ⟨(), ⟨rfl, rfl, rfl, trivial⟩, Gives.refl _⟩
    · rw [← hd] at h
      have e : RQ.o4 r = RQ.o3 r := by rw [RQ.o4, h]; rfl
      rw [e]
      repeat (first | refine wz ?_ | (refine wzb ?_; intro b_) | fail)
      exact ⟨(), ⟨rfl, rfl, rfl, trivial⟩, Gives.refl _⟩
  intro _
  repeat (first | ((first | (apply lx_u; exact rfl) | (apply lx_g; exact rfl; exact rfl)); first | (apply isy_bin_eql; exact q_beq r.k 1#8 rfl rfl rfl rfl) | (apply isy_bin_eql; exact q_beq r.k 5#8 rfl rfl rfl rfl) | fail) | refine wz ?_ | (refine wzb ?_; intro b_) | fail)
  refine cx_to (α := Unit) (fun _ => [(1, none, .pointer (some ⟨b1, 0, none⟩)), (2, none, .pointer (some ⟨b2, 0, none⟩)), (3, none, .pointer (some ⟨b3, 0, none⟩))]) (fun _ => [.blk b3 (RQ.only r).cells 53, .blk b2 zeroQ.cells 53, .blk b1 r.cells 53]) ?_ ?_
  · refine cx_cond rfl (fun h => ?_) (fun h => ?_)
    · rw [← hw] at h
      have e : RQ.only r = { RQ.o4 r with so := r.so, ky := r.ky, to_ := r.to_, ls := r.ls, ms := r.ms } := by rw [RQ.only, h]; rfl
      rw [e]
      repeat (first | refine wz ?_ | (refine wzb ?_; intro b_) | fail)
      exact ⟨(), ⟨rfl, rfl, rfl, trivial⟩, Gives.refl _⟩
    · rw [← hw] at h
      have e : RQ.only r = RQ.o4 r := by rw [RQ.only, h]; rfl
      rw [e]
      repeat (first | refine wz ?_ | (refine wzb ?_; intro b_) | fail)
      exact ⟨(), ⟨rfl, rfl, rfl, trivial⟩, Gives.refl _⟩
  intro _
  repeat (first | refine wz ?_ | (refine wzb ?_; intro b_) | fail)
  exact bq_ret (ret_cell (E := EV) 1 rfl rfl rfl rfl (fun _ => Nat.le_of_ble_eq_true rfl) rfl) [] (Gives.nil _) rfl ⟨rfl, rfl⟩

end Go.Proofs.YtmochicneilhhaaGreat.rq
namespace Go.Proofs.YtmochicneilhhaaGreat.rq
open Go.RowKit Go.Proofs.YtmochicneilhhaaGreat.pk
def bareQ (k : B8) (id : BitVec 32) : RQ := ⟨k, id, 0#8, 0#16, 0#64, 0#64, 0#8, [], [], 0, 0⟩
theorem right_iff (r : RQ) : r.right = true ↔ known r.k = true ∧ r.pg.toNat ≤ 64 ∧ ((has r.k .d && r.du == 0#16 && r.k != 6#8) = false) ∧ ((has r.k .w && !r.which) = false) ∧ r.only.eqB r = true := by
  simp only [RQ.right, Bool.and_eq_true, decide_eq_true_eq, Bool.not_eq_true']
  cases has r.k .w <;> cases r.which <;> simp [and_assoc]
theorem not_right (r : RQ) (h : ¬ (known r.k = true ∧ r.pg.toNat ≤ 64 ∧ ((has r.k .d && r.du == 0#16 && r.k != 6#8) = false) ∧ ((has r.k .w && !r.which) = false) ∧ r.only.eqB r = true)) : r.right = false := by
  rw [Bool.eq_false_iff]
  exact fun hr => h ((right_iff r).1 hr)
attribute [local irreducible] LX CX Yl Gives RetIs Fn

set_option maxHeartbeats 8000000 in
theorem right_fn (r : RQ) : Fn Tryz.prog 19 [r.val] [] [] fun v Lo => v = .bool r.right ∧ Lo = [] := by
  have hkf := known_fn r.k
  refine fn_enter Tryz.func19 rfl rfl (by kernel_rfl) rfl ?_
  intro w0
  repeat (first | (refine isx_call ?_; refine k_gcall (hkf) (fun _ hm => in_nil hm) rfl rfl rfl rfl rfl rfl ?_) | refine wz ?_ | (refine wzb ?_; intro b_) | fail)
  refine cx_cond rfl (fun h => ?_) (fun h => ?_)
  · have e : r.right = false := not_right r fun hr => by
      rw [hr.1] at h
      simp at h
      omega
    rw [e]
    repeat (first | refine wz ?_ | (refine wzb ?_; intro b_) | fail)
    exact bq_ret (ret_tmp rfl rfl) [] (Gives.nil _) rfl ⟨rfl, rfl⟩
  have hk : known r.k = true := by simp at h; exact h.1
  have hpg : r.pg.toNat ≤ 64 := by simp at h; omega
  clear h hkf
  have hk8 : r.k.toNat ≤ 8 := by simp only [known, Bool.and_eq_true, decide_eq_true_eq] at hk; exact hk.2
  have hpf := parts_fn r.k hk8
  have hcd := contains_has hk8 .d
  have hcw := contains_has hk8 .w
  have hwf := which_fn r
  have hvb := fun b => visit_blank b r hk8
  have hall := blank_all r
  have h1 : ((pts r.k).foldl RQ.blank r).k = r.k := by rw [blank_fold]
  have h2 : ((pts r.k).foldl RQ.blank r).id = r.id := by rw [blank_fold]
  generalize (pts r.k).foldl RQ.blank r = r2 at hvb hall h1 h2
  rw [← h1, ← h2] at hall
  generalize hhd : has r.k .d = hd at hcd
  generalize hhw : has r.k .w = hw at hcw
  generalize hwh : r.which = wh at hwf
  repeat (first | ((first | (apply lx_u; exact rfl) | (apply lx_g; exact rfl; exact rfl)); first | (apply isy_bin_eql; exact q_beq r.du 0#16 rfl rfl rfl rfl) | (apply isy_bin_neq; exact q_bne r.k 6#8 rfl rfl rfl rfl) | fail) | (refine isx_call ?_; refine k_gcall (hpf) (fun _ hm => in_nil hm) rfl rfl rfl rfl rfl rfl ?_) | (refine isx_call ?_; refine k_gcall (hcd) (fun _ hm => in_nil hm) rfl rfl rfl rfl rfl rfl ?_) | (refine isx_call ?_; refine k_gcall (hcw) (fun _ hm => in_nil hm) rfl rfl rfl rfl rfl rfl ?_) | (refine isx_call ?_; refine k_gcall (hwf) (fun _ hm => in_nil hm) rfl rfl rfl rfl rfl rfl ?_) | refine wz ?_ | (refine wzb ?_; intro b_) | fail)
  refine cx_cond rfl (fun h => ?_) (fun h => ?_)
  · have e : r.right = false := not_right r fun ⟨_, _, h3, h4, _⟩ => by
      rw [hhd] at h3
      rw [hhw, hwh] at h4
      rw [h3, h4] at h
      cases h
    rw [e]
    repeat (first | refine wz ?_ | (refine wzb ?_; intro b_) | fail)
    exact bq_ret (ret_tmp rfl rfl) [] (Gives.nil _) rfl ⟨rfl, rfl⟩
  have e : r.right = r2.eqB (bareQ r2.k r2.id) := by
    have e1 : r2.eqB (bareQ r2.k r2.id) = r.only.eqB r := hall
    rw [e1]
    obtain ⟨h3, h4⟩ := Bool.or_eq_false_iff.1 h
    rw [← hhd] at h3
    rw [← hhw, ← hwh] at h4
    rw [Bool.eq_iff_iff, right_iff]
    exact ⟨fun h => h.2.2.2.2, fun h5 => ⟨hk, hpg, h3, h4, h5⟩⟩
  clear h hpf hcd hcw hwf hall hhd hhw hwh
  repeat (first | refine wz ?_ | (refine wzb ?_; intro b_) | fail)
  repeat (first | (refine isx_call ?_; refine k_call (hvb _) [0] [0] [] rfl rfl rfl rfl rfl rfl rfl rfl ?_; rintro v_ Lo_ ⟨rfl, rfl⟩) | refine wzo ?_ | (refine wzb ?_; intro b_) | fail)
  repeat (first | ((first | (apply lx_u; exact rfl) | (apply lx_g; exact rfl; exact rfl)); first | (apply isy_bin_eql; exact yl_eqs rqe_g rfl rfl (fun w => rqe r2 (bareQ r2.k r2.id) w) (by first | exact fun _ => rfl | exact fun h => h | exact fun h => (Bool.and_eq_true_iff.1 h).1) (by first | exact fun _ => rfl | exact fun h => h | exact fun h => (Bool.and_eq_true_iff.1 h).1)) | fail) | refine wz ?_ | (refine wzb ?_; intro b_) | fail)
  exact bq_ret (ret_tmp rfl rfl) [] (Gives.nil _) rfl ⟨by rw [e], rfl⟩


set_option maxHeartbeats 8000000 in
theorem rright_fn (r : RQ) : Fn Tryz.prog 80 [r.val] [] [] fun v Lo => v = .bool r.right ∧ Lo = [] := by
  obtain ⟨_, _, _, hd, hw⟩ := has_eq r.k
  have hof := only_fn r
  have hwf := rwhich_fn r
  generalize ho : r.only.eqB r = oe
  generalize hwh : r.which = wh at hwf
  refine fn_enter Tryz.func80 rfl rfl (by kernel_rfl) rfl ?_
  intro w0
  repeat (first | refine wz ?_ | (refine wzb ?_; intro b_) | fail)
  refine cx_draw [15] [.blk b_ r.cells 53] rfl (by kernel_rfl) (Gives.refl _) ?_
  repeat (first | ((first | (apply lx_u; exact rfl) | (apply lx_g; exact rfl; exact rfl)); first | (apply isy_bin_neq; exact yl_nes rre_g rfl rfl (fun w => rre r.only r w) (by first | exact fun _ => rfl | exact fun h => h | exact fun h => (Bool.and_eq_true_iff.1 h).1) (by first | exact fun _ => rfl | exact fun h => h | exact fun h => (Bool.and_eq_true_iff.1 h).1)) | fail) | (refine isx_call ?_; refine k_gcall (hof) (fun _ hm => in_nil hm) rfl rfl rfl rfl rfl rfl ?_) | refine wz ?_ | (refine wzb ?_; intro b_) | fail)
  refine cx_cond rfl (fun h => ?_) (fun h => ?_)
  · have e : r.right = false := not_right r fun hr => by
      have hk := hr.1
      simp only [known, Bool.and_eq_true, decide_eq_true_eq] at hk
      have h3 := hr.2.2.2.2
      simp [h3] at h
      omega
    rw [e]
    repeat (first | refine wz ?_ | (refine wzb ?_; intro b_) | fail)
    exact bq_ret (ret_tmp rfl rfl) [] (Gives.nil _) rfl ⟨rfl, rfl⟩
  have hk : known r.k = true ∧ r.pg.toNat ≤ 64 ∧ r.only.eqB r = true := by
    simp [known] at h ⊢
    refine ⟨by omega, by omega, h.2⟩
  clear h hof ho
  repeat (first | ((first | (apply lx_u; exact rfl) | (apply lx_g; exact rfl; exact rfl)); first | (apply isy_bin_eql; exact q_beq r.k 2#8 rfl rfl rfl rfl) | (apply isy_bin_eql; exact q_beq r.k 3#8 rfl rfl rfl rfl) | (apply isy_bin_eql; exact q_beq r.k 5#8 rfl rfl rfl rfl) | (apply isy_bin_eql; exact q_beq r.du 0#16 rfl rfl rfl rfl) | fail) | refine wz ?_ | (refine wzb ?_; intro b_) | fail)
  have hd2 : ((r.k == 2#8 || r.k == 3#8 || r.k == 5#8) && r.du == 0#16) = (has r.k .d && r.du == 0#16 && r.k != 6#8) := by
    rw [hd]
    by_cases h6 : r.k = 6#8
    · rw [h6]; cases r.du == 0#16 <;> rfl
    · have e6 : (r.k == 6#8) = false := beq_eq_false_iff_ne.2 h6
      have n6 : (r.k != 6#8) = true := bne_iff_ne.2 h6
      rw [e6, n6, Bool.or_false, Bool.and_true]
  refine cx_cond rfl (fun h => ?_) (fun h => ?_)
  · have e : r.right = false := not_right r fun hr => by
      rw [hd2, hr.2.2.1] at h
      cases h
    rw [e]
    repeat (first | refine wz ?_ | (refine wzb ?_; intro b_) | fail)
    exact bq_ret (ret_tmp rfl rfl) [] (Gives.nil _) rfl ⟨rfl, rfl⟩
  rw [hd2] at h
  have e : r.right = (r.k != 1#8 && r.k != 5#8 || wh) := by
    have hx : (r.k != 1#8 && r.k != 5#8 || wh) = !(has r.k .w && !r.which) := by
      rw [hw, hwh]
      cases h1 : r.k == 1#8 <;> cases h5 : r.k == 5#8 <;> simp [bne, h1, h5]
    rw [hx, Bool.eq_iff_iff, right_iff, Bool.not_eq_true']
    exact ⟨fun h => h.2.2.2.1, fun h4 => ⟨hk.1, hk.2.1, h, h4, hk.2.2⟩⟩
  repeat (first | ((first | (apply lx_u; exact rfl) | (apply lx_g; exact rfl; exact rfl)); first | (apply isy_bin_neq; exact q_bne r.k 1#8 rfl rfl rfl rfl) | (apply isy_bin_neq; exact q_bne r.k 5#8 rfl rfl rfl rfl) | fail) | (refine isx_call ?_; refine k_gcall (hwf) (fun _ hm => in_nil hm) rfl rfl rfl rfl rfl rfl ?_) | refine wz ?_ | (refine wzb ?_; intro b_) | fail)
  exact bq_ret (ret_tmp rfl rfl) [] (Gives.nil _) rfl ⟨by rw [e], rfl⟩

end Go.Proofs.YtmochicneilhhaaGreat.rq
