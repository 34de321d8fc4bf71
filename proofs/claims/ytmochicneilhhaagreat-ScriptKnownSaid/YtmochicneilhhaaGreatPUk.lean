/- scripts: what ScriptWrites looks at first. scripts: ScriptWrites. scripts: ScriptWrites, for every argument. scripts: what ScriptKnown makes its inputs of. -/
import Derived.Test.YtmochicneilhhaaGreatPGo
import Derived.Test.YtmochicneilhhaaGreatPKi
import Derived.Test.YtmochicneilhhaaGreatPUe
import Derived.Test.YtmochicneilhhaaGreatPUj
namespace Go.Proofs.YtmochicneilhhaaGreat.sc
open Go.RowKit Go.Proofs.YtmochicneilhhaaGreat.kit Go.Proofs.YtmochicneilhhaaGreat.pk Go.Proofs.YtmochicneilhhaaGreat.rq Go.Proofs.YtmochicneilhhaaGreat.ev Go.Proofs.YtmochicneilhhaaGreat.win
attribute [local irreducible] LX CX Yl Gives RetIs Fn
attribute [local irreducible] be de fr.frm fr.takeF
set_option maxHeartbeats 2000000 in
theorem few_fn (A : Option Addr) (n cc : Nat) (xs : List MS) (hl : xs.length = n) (hn : n ≤ 9223372036854775807) : Fn Tryz.prog 23 [.slice A n cc] [Ck.sts A n xs] [] fun v Lo => v = .bool (fewB xs) ∧ Lo = [] := by
  subst hl
  refine fn_enter Tryz.func23 rfl rfl (by kernel_rfl) rfl ?_
  intro w0
  repeat (first | refine wz ?_ | (refine wzb ?_; intro b_) | fail)
  refine cx_loop (α := { i : Nat // i ≤ xs.length ∧ (xs.take i).all (fun x => decide (x.r.n ≤ 200) && decide (x.op.key.length ≤ 60)) = true }) (fun x => [(0, none, .slice A xs.length cc), (3, none, .int .i64 x.1)]) (fun _ => [Ck.sts A xs.length xs]) (fun x => xs.length - x.1) ⟨0, Nat.zero_le _, rfl⟩ ⟨rfl, rfl, trivial⟩ (Gives.refl _) ?_
  rintro ⟨i, hi, hall⟩
  dsimp only
  repeat (first | refine wz ?_ | (refine wzb ?_; intro b_) | fail)
  refine cx_cond rfl (fun h => ?_) (fun h => ?_)
  · have hlt : i < xs.length := by simp at h; omega
    clear h
    obtain ⟨x, hx⟩ : ∃ x, xs[i]? = some x := ⟨_, List.getElem?_eq_getElem hlt⟩
    have hx2 : (scells xs)[mulI i 8 + 2]? = some (.slice x.r.A x.r.n x.r.c) := scells_get hx 2 (by decide)
    have hx4 : (scells xs)[mulI i 8 + 3 + 1]? = some (.string (sb x.op.key)) := scells_get hx 4 (by decide)
    refine cx_weakL (Gives.sts 0 rfl) ?_
    repeat (first | ((first | (apply lx_u; exact rfl) | (apply lx_g; exact rfl; exact rfl)); first | (apply isy_indexAddr; exact q_ix 0 rfl rfl rfl rfl rfl) | (apply isy_fieldAddr; exact q_fi 0 rfl rfl rfl rfl rfl rfl) | (apply isy_load; exact q_li 0 rfl rfl rfl rfl hx2) | (apply isy_load; exact q_li 0 rfl rfl rfl rfl hx4) | (apply isy_blt; exact q_slen rfl rfl) | fail) | refine wz ?_ | (refine wzb ?_; intro b_) | fail)
    refine cx_cond rfl (fun h => ?_) (fun h => ?_)
    · have hbad : fewB xs = false := by
        have hp : (decide (x.r.n ≤ 200) && decide (x.op.key.length ≤ 60)) = false := by simp at h ⊢; omega
        have hne : ¬ xs.all (fun x => decide (x.r.n ≤ 200) && decide (x.op.key.length ≤ 60)) = true := fun ha => by
          have := List.all_eq_true.1 ha x (List.mem_of_getElem? hx)
          rw [hp] at this
          cases this
        unfold fewB
        rw [Bool.eq_false_iff.2 hne]
        rfl
      rw [hbad]
      repeat (first | refine wz ?_ | (refine wzb ?_; intro b_) | fail)
      exact bq_ret (ret_tmp rfl rfl) [] (Gives.nil _) rfl ⟨rfl, rfl⟩
    · have hp : (decide (x.r.n ≤ 200) && decide (x.op.key.length ≤ 60)) = true := by simp at h ⊢; omega
      repeat (first | refine wz ?_ | (refine wzb ?_; intro b_) | fail)
      exact ⟨⟨i + 1, hlt, by rw [List.take_add_one, hx, List.all_append, hall]; exact congrArg (· && true) hp⟩, ⟨rfl, slot_int (by dsimp only; omega), trivial⟩, Gives.pick [1] (by decide) rfl, by dsimp only; omega⟩
  · have hii : i = xs.length := by simp at h; omega
    rw [hii, List.take_length] at hall
    have hq : fewB xs = decide ((xs.length : Int) ≤ 30) := by
      unfold fewB
      rw [hall, Bool.true_and]
      exact decide_eq_decide.2 (by omega)
    rw [hq]
    repeat (first | refine wz ?_ | (refine wzb ?_; intro b_) | fail)
    exact bq_ret (ret_tmp rfl rfl) [] (Gives.nil _) rfl ⟨rfl, rfl⟩
theorem few_true {xs : List MS} (h : fewB xs = true) : xs.length ≤ 30 ∧ ∀ x ∈ xs, x.r.n ≤ 200 ∧ x.op.key.length ≤ 60 := by
  unfold fewB at h
  rw [Bool.and_eq_true, List.all_eq_true] at h
  refine ⟨of_decide_eq_true h.2, fun x hx => ?_⟩
  have := h.1 x hx
  rw [Bool.and_eq_true] at this
  exact ⟨of_decide_eq_true this.1, of_decide_eq_true this.2⟩
end Go.Proofs.YtmochicneilhhaaGreat.sc
namespace Go.Proofs.YtmochicneilhhaaGreat.sc
open Go.RowKit Go.Proofs.YtmochicneilhhaaGreat.kit Go.Proofs.YtmochicneilhhaaGreat.pk Go.Proofs.YtmochicneilhhaaGreat.rq Go.Proofs.YtmochicneilhhaaGreat.ev Go.Proofs.YtmochicneilhhaaGreat.win
theorem writeQ_le (c : Cf) (l : List SP) : (writeQ c l).1.length ≤ 16384 := by
  unfold writeQ
  split
  · exact Nat.zero_le _
  · split
    · exact Nat.zero_le _
    · dsimp only; omega
attribute [local irreducible] LX CX Yl Gives RetIs Fn
attribute [local irreducible] be de fr.frm fr.takeF
set_option maxRecDepth 100000 in
set_option maxHeartbeats 8000000 in
theorem writes_fn (c : Cf) (A : Option Addr) (n cc : Nat) (xs : List MS) (k : B8) (hl : xs.length = n) (hn : n ≤ 9223372036854775807) (hsp : ∀ x ∈ xs, x.r.l.length = x.r.n) : Fn Tryz.prog 6 [c.val, .slice A n cc, bv k] [Ck.sts A n xs] [] fun v Lo => v = .bool true ∧ Lo = [] := by
  subst hl
  have hfew := few_fn A xs.length cc xs rfl hn
  refine fn_enter Tryz.func6 rfl rfl (by kernel_rfl) rfl ?_
  intro w0
  repeat (first | (refine isx_call ?_; refine k_gcall (hfew) ((fun w hm => sts_in (hm.get (k := 1) rfl) (in_nil hm) rfl)) rfl rfl rfl rfl rfl rfl ?_) | refine wz ?_ | (refine wzb ?_; intro b_) | fail)
  refine cx_cond rfl (fun _ => ?_) (fun h => ?_)
  · repeat (first | (refine isx_call ?_; refine k_gcall (works_fn) (fun _ hm => in_nil hm) rfl rfl rfl rfl rfl rfl ?_) | refine wz ?_ | (refine wzb ?_; intro b_) | fail)
    exact bq_ret (ret_tmp rfl rfl) [] (Gives.nil _) rfl ⟨rfl, rfl⟩
  have hft : fewB xs = true := by simpa using h
  obtain ⟨hx30, hxf⟩ := few_true hft
  have hfit : Fit xs := fun x hx => ⟨hsp x hx, by have := hxf x hx; omega⟩
  have hfit2 : Fit2 xs := fun x hx => by have := hxf x hx; omega
  have hrefs := refs_fn A xs.length cc xs rfl (by omega) hfit
  have hwr := write_fn c A xs.length cc xs rfl (by omega) hfit2 hsp
  have hqle := writeQ_le c (xs.map MS.sp)
  generalize b_ = b3
  repeat (first | (refine isx_call ?_; (refine isx_call ?_; refine lx_call0 (hrefs) ((fun w hm => sts_in (hm.get (k := 1) rfl) (in_nil hm) rfl)) rfl rfl rfl rfl rfl rfl rfl rfl ?_; rintro v_ Lo_ ⟨A7, c7, ys, rfl, hys, fity, rfl⟩)) | refine wz ?_ | (refine wzb ?_; intro b_) | fail)
  refine lx_weak (L' := [.own A7 ys.length c7 68 8 (scells ys), .blk b3 c.cells 34, Ck.sts A xs.length xs] ++ sbods ys) Gives.mid ?_
  repeat (first | (refine isx_call ?_; (refine isx_call ?_; refine lx_call0 (hwr) ((fun w hm => sts_in (hm.get (k := 2) rfl) (in_nil hm) rfl)) rfl rfl rfl rfl rfl rfl rfl rfl ?_; rintro v_ Lo_ ⟨A8, c8, rfl, rfl⟩)) | refine wz ?_ | (refine wzb ?_; intro b_) | fail)
  have hw2 := rWrite_fn c A7 ys.length c7 ys rfl (by have := map_len hys; omega) (fun y hy => by
    obtain ⟨x, hx, hxy⟩ := List.mem_map.1 (hys ▸ List.mem_map.2 ⟨y, hy, rfl⟩ : y.sp ∈ xs.map MS.sp)
    have h1 := hxf x hx
    have h2 := fity y hy
    have h3 : x.op = y.op := congrArg SP.op hxy
    rw [← h3]
    omega) (fun y hy => (fity y hy).1)
  rw [hys] at hw2
  have hw1 := word_fn k
  have hw3 := rword_fn k
  generalize writeQ c (xs.map MS.sp) = wq at *
  obtain ⟨u, e⟩ := wq
  dsimp only at hqle hw2
  have hb : ∀ A' c' A'' c'', Fn Tryz.prog 15 [.slice A' u.length c', .slice A'' u.length c''] [.ro A' u.length 1 (bvs u), .ro A'' u.length 1 (bvs u)] [] fun v Lo => v = .bool true ∧ Lo = [] := fun A' c' A'' c'' => by
    have := kit.same_fn A' A'' u.length c' u.length c'' u u rfl rfl (by omega) (by omega)
    rwa [beq_self_eq_true] at this
  generalize wordQ k = wd at *
  repeat (first | ((first | (apply lx_gt; exact rfl; exact rfl; exact rfl) | (apply lx_u; exact rfl) | (apply lx_g; exact rfl; exact rfl)); first | (apply isy_bin_neq; exact yl_false (yl_op (E := EV) rfl) (fun _ => (bne_self_eq_false _))) | (apply isy_bin_neq; exact yl_false (q_sne wd wd rfl rfl) (fun _ => (bne_self_eq_false _))) | fail) | (refine isx_call ?_; refine lx_gcallt (config_law c) (fun _ hm => in_nil hm) rfl rfl rfl rfl rfl rfl rfl ?_) | (refine isx_call ?_; (refine isx_call ?_; refine lx_call0 (hw2) ((fun w hm => sts_in (sts_own 1 hm rfl fun x hx => by simp [hx]) (in_nil hm) rfl)) rfl rfl rfl rfl rfl rfl rfl rfl ?_; rintro v_ Lo_ ⟨A9, c9, rfl, rfl⟩)) | (refine isx_call ?_; refine lx_gcallt (hb A8 c8 A9 c9) ((fun w hm => in_ro (row_own 1 rfl hm) (in_ro (row_own 0 rfl hm) (in_nil hm) rfl) rfl)) rfl rfl rfl rfl rfl rfl rfl ?_) | (refine isx_call ?_; refine lx_gcallt (hw1) (fun _ hm => in_nil hm) rfl rfl rfl rfl rfl rfl rfl ?_) | (refine isx_call ?_; refine lx_gcallt (hw3) (fun _ hm => in_nil hm) rfl rfl rfl rfl rfl rfl rfl ?_) | (refine isx_call ?_; (refine isx_call ?_; refine lx_call0 (hrefs) ((fun w hm => sts_in (hm.get (k := 4) rfl) (in_nil hm) rfl)) rfl rfl rfl rfl rfl rfl rfl rfl ?_; rintro v_ Lo_ ⟨A10, c10, zs, rfl, hzs, fitz, rfl⟩)) | refine wzf ?_ | (refine wzb ?_; intro b_) | fail)
  refine lx_weak (L' := [.own A10 zs.length c10 68 8 (scells zs), .own A9 u.length c9 5 1 (bvs u), .own A8 u.length c8 5 1 (bvs u), .own A7 ys.length c7 68 8 (scells ys), .blk b3 c.cells 34, Ck.sts A xs.length xs] ++ (sbods ys ++ sbods zs)) Gives.mid ?_
  repeat (first | (refine isx_call ?_; refine lx_gcallt (same_law A10 A7 zs.length c10 ys.length c7 zs ys rfl rfl (hzs.trans hys.symm) (by have := map_len hzs; omega)) ((fun w hm => sts_in (sts_own 0 hm rfl fun x hx => by simp [hx]) (sts_in (sts_own 3 hm rfl fun x hx => by simp [hx]) (in_nil hm) rfl) rfl)) rfl rfl rfl rfl rfl rfl rfl ?_) | refine wzf ?_ | (refine wzb ?_; intro b_) | fail)
  refine cx_cond rfl (fun h => absurd h (by decide)) (fun _ => ?_)
  have hyl := map_len hys
  refine cx_weakL (L' := [.own A7 ys.length c7 68 8 (scells ys), Ck.sts A xs.length xs] ++ sbods ys) (Gives.trans (Gives.pre [_, _, _, _, _, _] [3, 5] (by decide) rfl rfl) (Gives.sub (List.Sublist.append_left (List.sublist_append_left _ _) _))) ?_
  repeat (first | refine wz ?_ | (refine wzb ?_; intro b_) | fail)
  refine cx_loop (α := { i : Nat // i ≤ xs.length }) (fun x => [(1, none, .slice A xs.length cc), (7, none, .slice A7 ys.length c7), (12, none, .int .i64 x.1)]) (fun _ => [.own A7 ys.length c7 68 8 (scells ys), Ck.sts A xs.length xs] ++ sbods ys) (fun x => xs.length - x.1) ⟨0, Nat.zero_le _⟩ ⟨rfl, rfl, rfl, trivial⟩ (Gives.refl _) ?_
  rintro ⟨i, hi⟩
  dsimp only
  repeat (first | refine wz ?_ | (refine wzb ?_; intro b_) | fail)
  refine cx_cond rfl (fun h => ?_) (fun h => ?_)
  · have hlt : i < xs.length := by simp at h; omega
    clear h
    obtain ⟨x, hx⟩ : ∃ x, xs[i]? = some x := ⟨_, List.getElem?_eq_getElem hlt⟩
    obtain ⟨x0, hx0⟩ : ∃ x, xs[0]? = some x := ⟨_, List.getElem?_eq_getElem (by omega)⟩
    obtain ⟨y, hy⟩ : ∃ y, ys[i]? = some y := ⟨_, List.getElem?_eq_getElem (by omega)⟩
    obtain ⟨y0, hy0⟩ : ∃ y, ys[0]? = some y := ⟨_, List.getElem?_eq_getElem (by omega)⟩
    have hxm := List.mem_of_getElem? hx
    have hxm0 := List.mem_of_getElem? hx0
    have hym := List.mem_of_getElem? hy
    have hym0 := List.mem_of_getElem? hy0
    have heq : ∀ (j : Nat) (a b : MS), xs[j]? = some a → ys[j]? = some b → b.sp = a.sp := fun j a b ha hb2 => by
      have h1 : (ys.map MS.sp)[j]? = some b.sp := by rw [List.getElem?_map, hb2]; rfl
      rw [hys, List.getElem?_map, ha] at h1
      exact (Option.some.inj h1).symm
    have hs1 := same_fn x x0
    have hs2 := rsame_fn y y0 (fity y hym).1 (fity y0 hym0).1 (by have := (fity y hym).2; omega)
    have hs3 := same_fn x x
    rw [heq i x y hx hy, heq 0 x0 y0 hx0 hy0] at hs2
    rw [SP.eqB_self] at hs3
    generalize x.sp.eqB x0.sp = eb at *
    have hcx := scells_at hx
    have hcx0 := scells_at hx0
    have hcy := scells_at hy
    have hcy0 := scells_at hy0
    have h0 : 0 < xs.length := by omega
    have h0y : 0 < ys.length := by omega
    have hbody : ∀ (L0 : List Ck) (z : MS), z ∈ ys → z.body ∈ L0 ++ sbods ys := fun L0 z hz => List.mem_append.2 (.inr (List.mem_map.2 ⟨z, List.mem_reverse.2 hz, rfl⟩))
    refine cx_weakL (Gives.sts 1 rfl) ?_
    repeat (first | refine wz ?_ | (refine wzb ?_; intro b_) | fail)
    refine cx_draw [7, 15, 26] _ rfl (by kernel_rfl) (Gives.refl _) ?_
    repeat (first | ((first | (apply lx_gt; exact rfl; exact rfl; exact rfl) | (apply lx_u; exact rfl) | (apply lx_g; exact rfl; exact rfl)); first | (apply isy_indexAddr; exact q_ix 0 rfl rfl rfl rfl rfl) | (apply isy_load; exact q_ln 0 rfl rfl rfl rfl hcx rfl rfl) | (apply isy_indexAddr; exact q_ix 0 rfl rfl rfl rfl rfl (hb := (fun _ => by omega))) | (apply isy_load; exact q_ln 0 rfl rfl rfl rfl hcx0 rfl rfl) | (apply isy_indexAddr; exact q_ixo 1 rfl rfl rfl rfl rfl) | (apply isy_load; exact q_lno 1 rfl rfl rfl rfl hcy rfl rfl) | (apply isy_indexAddr; exact q_ixo 1 rfl rfl rfl rfl rfl (hb := (fun _ => by omega))) | (apply isy_load; exact q_lno 1 rfl rfl rfl rfl hcy0 rfl rfl) | (apply isy_bin_neq; exact yl_false (yl_op (E := EV) rfl) (fun _ => (bne_self_eq_false _))) | fail) | (refine isx_call ?_; refine lx_gcallt (hs1) ((fun w hm => in_ro ((hm.get (k := 2) rfl : stP A xs.length xs w).2 x hxm).1 (in_ro ((hm.get (k := 2) rfl : stP A xs.length xs w).2 x0 hxm0).1 (in_nil hm) rfl) rfl)) rfl rfl rfl rfl rfl rfl rfl ?_) | (refine isx_call ?_; refine lx_gcallt (hs2) ((fun w hm => in_ro (sbody_ok (hbody [_, _, _] y hym) hm).1 (in_ro (sbody_ok (hbody [_, _, _] y0 hym0) hm).1 (in_nil hm) rfl) rfl)) rfl rfl rfl rfl rfl rfl rfl ?_) | (refine isx_call ?_; refine lx_gcallt (hs3) ((fun w hm => in_ro ((hm.get (k := 2) rfl : stP A xs.length xs w).2 x hxm).1 (in_ro ((hm.get (k := 2) rfl : stP A xs.length xs w).2 x hxm).1 (in_nil hm) rfl) rfl)) rfl rfl rfl rfl rfl rfl rfl ?_) | refine wzf ?_ | (refine wzb ?_; intro b_) | fail)
    refine cx_cond rfl (fun h => absurd h (by decide)) (fun _ => ?_)
    repeat (first | refine wz ?_ | (refine wzb ?_; intro b_) | fail)
    exact ⟨⟨i + 1, by omega⟩, ⟨rfl, rfl, slot_int (by dsimp only; omega), trivial⟩, Gives.pre [_, _, _] [1, 2] (by decide) rfl rfl, by dsimp only; omega⟩
  · repeat (first | (refine isx_call ?_; refine k_gcall (works_fn) (fun _ hm => in_nil hm) rfl rfl rfl rfl rfl rfl ?_) | refine wz ?_ | (refine wzb ?_; intro b_) | fail)
    exact bq_ret (ret_tmp rfl rfl) [] (Gives.nil _) rfl ⟨rfl, rfl⟩
end Go.Proofs.YtmochicneilhhaaGreat.sc
namespace Go.Proofs.YtmochicneilhhaaGreat.sc
open Go.RowKit Go.Proofs.YtmochicneilhhaaGreat.kit Go.Proofs.YtmochicneilhhaaGreat.pk Go.Proofs.YtmochicneilhhaaGreat.rq Go.Proofs.YtmochicneilhhaaGreat.ev
end Go.Proofs.YtmochicneilhhaaGreat.sc
namespace Go.Proofs.YtmochicneilhhaaGreat.sc
open Go.RowKit Go.Proofs.YtmochicneilhhaaGreat.kit Go.Proofs.YtmochicneilhhaaGreat.pk Go.Proofs.YtmochicneilhhaaGreat.rq Go.Proofs.YtmochicneilhhaaGreat.ev Go.Proofs.YtmochicneilhhaaGreat.win
/-- as 'cx_to', inside a block that has been entered -/
theorem cx_bto {P : Program} {n id : Nat} {M : Me} {Q : Post} {t : Fr} {L : List Ck} {x y : Code} {α : Type} (S : α → Fr) (m : α → List Ck) (h : CX P n M x (blockQ id (thenQ (fun t' L' => ∃ z, Sub (S z) t' ∧ Gives L' (m z)) Q)) t L) (hy : ∀ z, CX P n M y Q (S z) (m z)) : CX P n M x (blockQ id (thenQ (fun t' L' => CX P n M y Q t' L') Q)) t L := by
  refine cx_mono (fun e t' L' hq => ?_) h
  have hw : (∃ z, Sub (S z) t' ∧ Gives L' (m z)) → CX P n M y Q t' L' := fun ⟨z, hs, hg⟩ => cx_weak (fun a hf => hs.frm hf) hg (hy z)
  cases e with
  | exit i =>
    unfold blockQ at hq ⊢
    dsimp only at hq ⊢
    cases hb : Nat.beq i id with
    | true => rw [hb] at hq; exact hw hq
    | false => rw [hb] at hq; exact hq
  | normal => exact hw hq
  | _ => exact hq
structure BySt (m : Nat) where
  i : Nat
  k : Nat
  l : List B8
  A' : Option Addr
  c' : Nat
  hi : i ≤ m
  hk : k ≤ 200000
  hl : l.length = i
attribute [local irreducible] LX CX Yl Gives RetIs Fn
attribute [local irreducible] be de fr.frm fr.takeF
theorem bytes_fn (q m : Nat) (hq : q ≤ 200000) (hm : m ≤ 200000) : Fn Tryz.prog 29 [.int .i64 q, .int .i64 m] [] [] fun v Lo => ∃ A c l, v = .slice A (List.length l) c ∧ l.length = m ∧ Lo = [.own A l.length c 5 1 (bvs l)] := by
  refine fn_enter Tryz.func29 rfl rfl (by kernel_rfl) rfl ?_
  intro w0
  repeat (first | refine wz ?_ | (refine wzb ?_; intro b_) | fail)
  refine cx_loop (α := BySt m) (fun x => [(1, none, .int .i64 m), (5, none, .slice x.A' x.l.length x.c'), (6, none, .int .i64 x.k), (7, none, .int .i64 x.i)]) (fun x => [.own x.A' x.l.length x.c' 5 1 (bvs x.l)]) (fun x => m - x.i) ⟨0, q, [], none, 0, Nat.zero_le _, hq, rfl⟩ ⟨rfl, rfl, rfl, rfl, trivial⟩ (Gives.nilown _ _ _) ?_
  rintro ⟨i, k, l, A', c', hi, hk, hl⟩
  dsimp only at hi hk hl ⊢
  repeat (first | refine wz ?_ | (refine wzb ?_; intro b_) | fail)
  refine cx_cond rfl (fun h => ?_) (fun h => ?_)
  · have hlt : i < m := by simp at h; omega
    clear h
    repeat (first | ((first | (apply lx_u; exact rfl) | (apply lx_g; exact rfl; exact rfl)); first | (apply isy_convert; exact q_ci uk8 rfl rfl rfl) | fail) | refine wz ?_ | (refine wzb ?_; intro b_) | fail)
    refine lx_weak (Gives.blkown (m := 1) (sz := 1) 0 rfl rfl (by decide)) ?_
    repeat (first | ((first | (apply lx_u; exact rfl) | (apply lx_g; exact rfl; exact rfl)); first | (apply isy_bin_mul; exact q_mul rfl rfl) | (apply isy_bin_rem; exact q_rem rfl rfl) | fail) | (refine isx_blt ?_; refine lx_appB (E := EV) 1 l [BitVec.ofInt 8 (k : Int)] rfl rfl rfl rfl rfl rfl rfl rfl rfl rfl rfl rfl rfl (fun w hm => row_own 0 rfl hm) (by simp only [List.length_append, pk.be_len, pk.txt_len, List.length_cons, List.length_nil]; omega) (fun _ _ _ => trivial) ?_; intro A_ c_) | refine wz ?_ | (refine wzb ?_; intro b_) | fail)
    have hk2 : ((k : Int) * 31 + 7 * (i : Int) + 11).tmod 100003 = (((k * 31 + 7 * i + 11) % 100003 : Nat) : Int) := by
      have := modN (k * 31 + 7 * i + 11) 100003
      rw [← this]
      refine congrArg (Int.tmod · 100003) ?_
      omega
    exact ⟨⟨i + 1, (k * 31 + 7 * i + 11) % 100003, l ++ [BitVec.ofInt 8 (k : Int)], A_, c_, hlt, by omega, by simp [hl]⟩, ⟨rfl, rfl, slot_int hk2, slot_int (by dsimp only; omega), trivial⟩, Gives.pick [1] (by decide) rfl, by dsimp only; omega⟩
  · repeat (first | refine wz ?_ | (refine wzb ?_; intro b_) | fail)
    exact bq_ret (ret_tmp rfl rfl) [_] (Gives.refl _) rfl ⟨A', c', l, rfl, by simp at h; omega, rfl⟩
set_option maxHeartbeats 4000000 in
theorem odd_fn (c : Cf) (i n : Int) : Fn Tryz.prog 30 [c.val, .int .i64 i, .int .i64 n] [] [] fun v Lo => ∃ d : Cf, v = d.val ∧ Lo = [] := by
  have h1 := ofTumbling_fn n
  have h2 := ofSliding_fn n 2
  have h3 := ofSession_fn n
  refine fn_enter Tryz.func30 rfl rfl (by kernel_rfl) rfl ?_
  intro w0
  repeat (first | refine wz ?_ | (refine wzb ?_; intro b_) | fail)
  rename_i b3
  generalize b_ = b6
  refine cx_bto (α := Cf) (fun d => [(3, none, .pointer (some ⟨b3, 0, none⟩)), (6, none, .pointer (some ⟨b6, 0, none⟩))]) (fun d => [.blk b6 (.int .u8 0 :: List.replicate 10 (.int .i64 0)) 34, .blk b3 d.cells 34]) ?_ ?_
  · refine cx_cond rfl (fun _ => ?_) (fun _ => ?_)
    · repeat (first | (refine isx_call ?_; refine k_gcall (h1) (fun _ hm => in_nil hm) rfl rfl rfl rfl rfl rfl ?_) | refine wz ?_ | (refine wzb ?_; intro b_) | fail)
      exact ⟨⟨1, n, 0, 0, c.la, c.ca, c.pg, c.bu, c.qu, c.cl, c.le⟩, ⟨rfl, rfl, trivial⟩, Gives.refl _⟩
    repeat (first | refine wz ?_ | (refine wzb ?_; intro b_) | fail)
    refine cx_cond rfl (fun _ => ?_) (fun _ => ?_)
    · repeat (first | (refine isx_call ?_; refine k_gcall (h2) (fun _ hm => in_nil hm) rfl rfl rfl rfl rfl rfl ?_) | refine wz ?_ | (refine wzb ?_; intro b_) | fail)
      exact ⟨⟨2, n, 2, 0, c.la, c.ca, c.pg, c.bu, c.qu, c.cl, c.le⟩, ⟨rfl, rfl, trivial⟩, Gives.refl _⟩
    repeat (first | refine wz ?_ | (refine wzb ?_; intro b_) | fail)
    refine cx_cond rfl (fun _ => ?_) (fun _ => ?_)
    · repeat (first | (refine isx_call ?_; refine k_gcall (h3) (fun _ hm => in_nil hm) rfl rfl rfl rfl rfl rfl ?_) | refine wz ?_ | (refine wzb ?_; intro b_) | fail)
      exact ⟨⟨3, 0, 0, n, c.la, c.ca, c.pg, c.bu, c.qu, c.cl, c.le⟩, ⟨rfl, rfl, trivial⟩, Gives.refl _⟩
    repeat (first | refine wz ?_ | (refine wzb ?_; intro b_) | fail)
    refine cx_cond rfl (fun _ => ?_) (fun _ => ?_)
    · repeat (first | refine wz ?_ | (refine wzb ?_; intro b_) | fail)
      exact ⟨⟨c.k, c.s, c.l, c.g, n, c.ca, c.pg, c.bu, c.qu, c.cl, c.le⟩, ⟨rfl, rfl, trivial⟩, Gives.refl _⟩
    repeat (first | refine wz ?_ | (refine wzb ?_; intro b_) | fail)
    refine cx_cond rfl (fun _ => ?_) (fun _ => ?_)
    · repeat (first | refine wz ?_ | (refine wzb ?_; intro b_) | fail)
      exact ⟨⟨c.k, c.s, c.l, c.g, c.la, n, c.pg, c.bu, c.qu, c.cl, c.le⟩, ⟨rfl, rfl, trivial⟩, Gives.refl _⟩
    repeat (first | refine wz ?_ | (refine wzb ?_; intro b_) | fail)
    refine cx_cond rfl (fun _ => ?_) (fun _ => ?_)
    · repeat (first | refine wz ?_ | (refine wzb ?_; intro b_) | fail)
      exact ⟨⟨c.k, c.s, c.l, c.g, c.la, c.ca, n, c.bu, c.qu, c.cl, c.le⟩, ⟨rfl, rfl, trivial⟩, Gives.refl _⟩
    repeat (first | refine wz ?_ | (refine wzb ?_; intro b_) | fail)
    refine cx_cond rfl (fun _ => ?_) (fun _ => ?_)
    · repeat (first | refine wz ?_ | (refine wzb ?_; intro b_) | fail)
      exact ⟨⟨c.k, c.s, c.l, c.g, c.la, c.ca, c.pg, n, c.qu, c.cl, c.le⟩, ⟨rfl, rfl, trivial⟩, Gives.refl _⟩
    repeat (first | refine wz ?_ | (refine wzb ?_; intro b_) | fail)
    refine cx_cond rfl (fun _ => ?_) (fun _ => ?_)
    · repeat (first | refine wz ?_ | (refine wzb ?_; intro b_) | fail)
      exact ⟨⟨c.k, c.s, c.l, c.g, c.la, c.ca, c.pg, c.bu, n, c.cl, c.le⟩, ⟨rfl, rfl, trivial⟩, Gives.refl _⟩
    repeat (first | refine wz ?_ | (refine wzb ?_; intro b_) | fail)
    refine cx_cond rfl (fun _ => ?_) (fun _ => ?_)
    · repeat (first | refine wz ?_ | (refine wzb ?_; intro b_) | fail)
      exact ⟨⟨c.k, c.s, c.l, c.g, c.la, c.ca, c.pg, c.bu, c.qu, n, c.le⟩, ⟨rfl, rfl, trivial⟩, Gives.refl _⟩
    repeat (first | refine wz ?_ | (refine wzb ?_; intro b_) | fail)
    refine cx_cond rfl (fun _ => ?_) (fun _ => ?_)
    · repeat (first | refine wz ?_ | (refine wzb ?_; intro b_) | fail)
      exact ⟨⟨c.k, c.s, c.l, c.g, c.la, c.ca, c.pg, c.bu, c.qu, c.cl, n⟩, ⟨rfl, rfl, trivial⟩, Gives.refl _⟩
    repeat (first | ((first | (apply lx_u; exact rfl) | (apply lx_g; exact rfl; exact rfl)); first | (apply isy_convert; exact q_ci uk8 rfl rfl rfl) | fail) | refine wz ?_ | (refine wzb ?_; intro b_) | fail)
    exact ⟨⟨((BitVec.ofInt 8 n).toNat : Int), c.s, c.l, c.g, c.la, c.ca, c.pg, c.bu, c.qu, c.cl, c.le⟩, ⟨rfl, rfl, trivial⟩, Gives.refl _⟩
  · intro d
    repeat (first | refine wz ?_ | (refine wzb ?_; intro b_) | fail)
    exact bq_end (ret_cell (E := EV) 0 rfl rfl rfl rfl (fun _ => Nat.le_of_ble_eq_true rfl) rfl) [] (Gives.nil _) rfl ⟨d, rfl, rfl⟩
end Go.Proofs.YtmochicneilhhaaGreat.sc
