import Derived.Test.YtapiconoooncgaaPureT1
set_option linter.unusedVariables false
namespace Go.GL
open Go


end Go.GL
