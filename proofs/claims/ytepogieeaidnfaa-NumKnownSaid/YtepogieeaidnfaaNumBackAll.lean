/- The law NumBack: all its ways together. -/
import Derived.Test.YtepogieeaidnfaaRows
import Derived.Test.YtepogieeaidnfaaBase
import Derived.Test.YtepogieeaidnfaaNumBackN
import Derived.Test.YtepogieeaidnfaaNumBackF
import Derived.Test.YtepogieeaidnfaaNumBackO
import Derived.Test.YtepogieeaidnfaaNumBackE
namespace Go.Proofs.Ytepogieeaidnfaa.num
open Go.ChangeShapes Go.WideShapes Go.ChangeAt Go.RowKit
set_option maxRecDepth 100000 in
theorem numBack_any (A : Option Addr) (len c : Nat) (zs : List Int) (by_ n d : Int) (w : World) (hz : ∀ n ∈ zs, (Lit.int .i64 n).wf = true) (hr : Row w w.heap.size 1 A len (ints .i64 zs)) (_hn : len ≤ 9223372036854775807) (hc : len ≤ c)
    (_wb : (Lit.int .i64 by_).wf = true) (wn : (Lit.int .i64 n).wf = true) (wd : (Lit.int .i64 d).wf = true) :
    Calls Try.prog 12 #[.slice A len c, .int .i64 by_, .int .i64 n, .int .i64 d] w (Yes w) := by
  by_cases h60 : 60 < len
  · go_enter Try.func12, Try.ntmps12
    go_wp2_with fail
    refine (works_any _).mono ?_
    rintro e w1 ⟨rfl, hb1⟩
    go_wp2_with fail
    go_ret
    exact ⟨rfl, hb1⟩
  · have h60 : len ≤ 60 := by omega
    by_cases hd : d ≤ 0
    · by_cases h0 : 0 < len
      · cases hA : inI (n + d)
        · exact back_no_not A len c zs by_ n d w hz hr wn wd hc h60 h0 hA hd
        · exact back_no_ok A len c zs by_ n d w hz hr wn wd hc h60 h0 hA hd
      · cases hA : inI (n + d)
        · exact back_e_no_not A len c zs by_ n d w hz hr wn wd hc h60 (by omega) hA hd
        · exact back_e_no_ok A len c zs by_ n d w hz hr wn wd hc h60 (by omega) hA hd
    · have hd : 0 < d := by omega
      cases hI : inI (downV n d)
      · by_cases h0 : 0 < len
        · cases hA : inI (n + d)
          · exact back_over_not A len c zs by_ n d w hz hr wn wd hc h60 h0 hA hd hI
          · exact back_over_ok A len c zs by_ n d w hz hr wn wd hc h60 h0 hA hd hI
        · cases hA : inI (n + d)
          · exact back_e_over_not A len c zs by_ n d w hz hr wn wd hc h60 (by omega) hA hd hI
          · exact back_e_over_ok A len c zs by_ n d w hz hr wn wd hc h60 (by omega) hA hd hI
      · by_cases h0 : 0 < len
        · cases hA : inI (n + d)
          · exact back_fits_not A len c zs by_ n d w hz hr wn wd hc h60 h0 hA hd hI
          · exact back_fits_ok A len c zs by_ n d w hz hr wn wd hc h60 h0 hA hd hI
        · cases hA : inI (n + d)
          · exact back_e_fits_not A len c zs by_ n d w hz hr wn wd hc h60 (by omega) hA hd hI
          · exact back_e_fits_ok A len c zs by_ n d w hz hr wn wd hc h60 (by omega) hA hd hI
end Go.Proofs.Ytepogieeaidnfaa.num
