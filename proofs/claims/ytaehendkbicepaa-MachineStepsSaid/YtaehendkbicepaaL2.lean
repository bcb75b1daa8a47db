/- The given statement of steps: 'MachineStepsSaid'. No condition. -/
import Derived.Test.YtaehendkbicepaaC14
namespace Go.Proofs.Ytaehendkbicepaa
theorem machineSteps_holds : Rows.MachineStepsSaid := Go.Lg.steps_holds
end Go.Proofs.Ytaehendkbicepaa
