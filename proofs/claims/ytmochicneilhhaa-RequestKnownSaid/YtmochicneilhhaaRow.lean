/- Rows cut. -/
import Derived.Test.YtmochicneilhhaaDp
namespace Go.Proofs.Ytmochicneilhhaa
open Go.RowKit
/-- the first elements of a row -/
theorem Row.pre {w : World} {B sz m k : Nat} {A : Option Addr} {xs : List Value} (h : Row w B sz A m xs) (h2 : k ≤ m) : Row w B sz A k (xs.take (k * sz)) := by
  have h4 := Nat.mul_le_mul_right sz h2
  refine ⟨by rw [List.length_take, h.1]; omega, fun hn => ?_⟩
  obtain ⟨b, off, rfl, hb, hcell⟩ := h.2 (by omega)
  refine ⟨b, off, rfl, hb, fun j u hu => ?_⟩
  rw [List.getElem?_take] at hu
  split at hu
  · exact hcell _ u hu
  · cases hu
theorem Row.preb {w : World} {B m k : Nat} {A : Option Addr} {l : List B8} (h : Row w B 1 A m (bvs l)) (h2 : k ≤ m) : Row w B 1 A k (bvs (l.take k)) := by
  have := h.pre h2
  rwa [Nat.mul_one, show (bvs l).take k = bvs (l.take k) by simp [bvs, List.map_take]] at this
theorem Row.cutb {w : World} {B m c lo hi : Nat} {A : Option Addr} {l : List B8} (h : Row w B 1 A m (bvs l)) (h1 : lo ≤ hi) (h2 : hi ≤ m) (hc : m ≤ c) : Row w B 1 (cutA A c lo 1) (hi - lo) (bvs ((l.drop lo).take (hi - lo))) := by
  have := h.cut h1 h2 hc
  rwa [cutL_bvs] at this
theorem Row.sufb {w : World} {B m c lo : Nat} {A : Option Addr} {l : List B8} (h : Row w B 1 A m (bvs l)) (h1 : lo ≤ m) (hc : m ≤ c) : Row w B 1 (cutA A c lo 1) (m - lo) (bvs (l.drop lo)) := by
  have := h.cutb h1 (Nat.le_refl _) hc
  have hl := h.1
  rw [bvs_len] at hl
  rwa [List.take_of_length_le (by rw [List.length_drop]; omega)] at this
theorem Row.nil {w : World} {B sz : Nat} {A : Option Addr} : Row w B sz A 0 [] := ⟨by simp, fun h => absurd h (Nat.lt_irrefl 0)⟩
/-- a block of slices, as rows -/
theorem rows_blk {M : Me} {L : List Ck} {w : World} {b : Nat} {T : TypeId} {cs : List Value} (k : Nat) (rs : List Rw) (hm : Mem M L w) (hk : L[k]? = some (.blk b cs T)) (hcs : cs = rwv rs) (hr : ∀ r ∈ rs, r.ok w) : Mem ⟨w, []⟩ [.rows (some ⟨b, 0, none⟩) rs.length rs] w :=
  rows_in ⟨by rw [← hcs]; exact row_blk k hk (by rw [hcs, rwv_len, Nat.mul_one]) hm, hr⟩ (in_nil hm) rfl
theorem own_ro {M : Me} {L : List Ck} {w : World} {A : Option Addr} {m c : Nat} {T : TypeId} {sz : Nat} {xs : List Value} (k : Nat) (hm : Mem M L w) (hk : L[k]? = some (.own A m c T sz xs)) : Mem ⟨w, []⟩ [.ro A m sz xs] w := in_ro (row_own k hk hm) (in_nil hm) rfl
theorem Gives.cutb {L : List Ck} (k : Nat) {A : Option Addr} {m c lo : Nat} {l : List B8} (hk : L[k]? = some (.ro A m 1 (bvs l))) (h2 : lo ≤ m) (hc : m ≤ c) : Gives L (.ro (cutA A c lo 1) (m - lo) 1 (bvs (l.drop lo)) :: L) :=
  Gives.add k hk rfl rfl fun w hr => ⟨Row.sufb hr h2 hc, fun b hb => by
    obtain ⟨hq, hb⟩ := hb
    obtain ⟨b0, off, rfl, _, _⟩ := hr.2 (by omega)
    rw [cutA] at hb
    split at hb
    · exact ⟨by omega, hb⟩
    · rw [Option.map_some, add_at] at hb
      exact ⟨by omega, hb⟩⟩
/-- what a call leaves, otherwise told -/
theorem Fn.gives {P : Program} {f : FuncId} {args : List Value} {Lin : List Ck} {D : List Nat} {post post' : Value → List Ck → Prop} (h : Fn P f args Lin D post) (hp : ∀ v Lo, post v Lo → ∃ Lo', post' v Lo' ∧ Gives Lo Lo' ∧ Lo'.all Ck.mut_ = true) : Fn P f args Lin D post' :=
  ⟨h.1, fun w hm => (h.2 w hm).mono fun _ _ ⟨v, Lo, he, hq, hm', _⟩ => by
    obtain ⟨Lo', h1, h2, h3⟩ := hp v Lo hq
    exact ⟨v, Lo', he, h1, h2 _ _ hm', h3⟩⟩
end Go.Proofs.Ytmochicneilhhaa
