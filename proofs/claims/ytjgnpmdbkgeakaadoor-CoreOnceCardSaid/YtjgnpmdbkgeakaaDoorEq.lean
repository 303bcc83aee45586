/- The equations. -/
import Derived.Test.YtjgnpmdbkgeakaaDoorEqK
import Derived.Test.YtjgnpmdbkgeakaaDoorEqL
