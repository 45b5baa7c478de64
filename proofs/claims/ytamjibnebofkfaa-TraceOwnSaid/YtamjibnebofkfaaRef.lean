/- Contracts of the references' helpers: Rest; slices of ints: Has, Eq. -/
import Derived.Test.YtamjibnebofkfaaRest
import Derived.Test.YtamjibnebofkfaaHasI
import Derived.Test.YtamjibnebofkfaaEqI
