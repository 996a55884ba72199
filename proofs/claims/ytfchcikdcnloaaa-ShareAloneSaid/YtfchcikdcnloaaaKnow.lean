/- What the chapter's examples come to. -/
import Derived.Test.YtfchcikdcnloaaaCount
import Derived.Test.YtfchcikdcnloaaaChkdiv
import Derived.Test.YtfchcikdcnloaaaDivs
namespace Go.Proofs.Ytfchcikdcnloaaa
open Go Go.RowKit Go.Proofs

theorem know_p (part : Int) (h : part = 50 ∨ part = 1) : checkPool [53, 24, 23] part 10 = 0 := by rcases h with rfl | rfl <;> kernel_rfl
theorem know_t : checkPool [10, 10, 10] 50 4 = 0 := by kernel_rfl
theorem know_order : orderE [53, 24, 23] 50 10 = [0, 1, 2, 0, 0, 1, 2, 0, 0, 0] := by kernel_rfl
theorem know_a : sharesE [53, 24, 23] 50 10 = [6, 2, 2] := by kernel_rfl
theorem know_b : sharesE [53, 24, 23] 1 10 = [5, 3, 2] := by kernel_rfl
theorem know_e4 : checkSharesE [53, 24, 23] 50 10 [5, 3, 2] = 22 := by kernel_rfl
theorem know_e5 : checkSharesE [10, 10, 10] 50 4 [1, 1, 2] = 0 := by kernel_rfl
theorem know_e6 : divisorsE [53, 24, 23] 50 10 [6, 2, 2] = 0 := by kernel_rfl
theorem know_e7 : checkDivisorE [53, 24, 23] 50 10 [6, 2, 2] 29 3 = 22 := by kernel_rfl
theorem know_e8 : checkDivisorE [53, 24, 23] 50 10 [6, 2, 2] 48 5 = 0 := by kernel_rfl
theorem know_n : countE [10, 10, 10] 50 4 = 3 := by kernel_rfl
theorem know_s : spanR [10, 10, 10] 50 4 1 = (1, 2) := by kernel_rfl
theorem know_se : ownedE [10, 10, 10] 50 4 1 = 0 := by kernel_rfl
theorem know_q : quotaR [53, 24, 23] 50 10 0 = (5, 6) := by kernel_rfl
theorem know_qe : ownedE [53, 24, 23] 50 10 0 = 0 := by kernel_rfl

end Go.Proofs.Ytfchcikdcnloaaa
