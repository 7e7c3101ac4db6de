/- The reference's Update, walked: it computes the plain Lean function named here. No condition but the numbers' bounds. -/
import Derived.Test.YtfoefkoneekolaaDoorSource3
namespace Go.Proofs.YtfoefkoneekolaaDoor
open Go.RowKit
attribute [local go_sem ↓] Go.wp_at_zero Go.wp_at_succ

end Go.Proofs.YtfoefkoneekolaaDoor
