/- The laws of the constants, of IsName and of CheckOf: for every input the call returns true, and the inputs read as they did. -/
import Derived.Test.YtakoklldmdbphaaA
import Derived.Test.YtakoklldmdbphaaOpen
set_option linter.unusedVariables false



