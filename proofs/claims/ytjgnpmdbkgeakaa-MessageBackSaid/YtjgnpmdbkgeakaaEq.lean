/- The equations. -/
import Derived.Test.YtjgnpmdbkgeakaaEqK
import Derived.Test.YtjgnpmdbkgeakaaEqL
