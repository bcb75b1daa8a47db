/- The given statement of urgencies and budgets: 'SystemUrgenciesSaid'. No condition. -/
import Derived.Test.YtaehendkbicepaaGreatD5
namespace Go.Proofs.YtaehendkbicepaaGreat
theorem systemUrgencies_holds : Rows.SystemUrgenciesSaid := Go.Lg.urg_holds
end Go.Proofs.YtaehendkbicepaaGreat
