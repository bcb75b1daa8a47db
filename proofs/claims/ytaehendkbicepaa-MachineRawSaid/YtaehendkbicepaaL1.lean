/- The given statement of raw steps: 'MachineRawSaid'. No condition. -/
import Derived.Test.YtaehendkbicepaaC12
namespace Go.Proofs.Ytaehendkbicepaa
theorem machineRaw_holds : Rows.MachineRawSaid := Go.Lg.raw_holds
end Go.Proofs.Ytaehendkbicepaa
