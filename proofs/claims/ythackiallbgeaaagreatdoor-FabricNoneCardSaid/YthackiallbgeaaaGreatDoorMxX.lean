import Derived.Test.YthackiallbgeaaaGreatDoorMxT
import Derived.Test.YthackiallbgeaaaGreatDoorMxV
import Derived.Test.YthackiallbgeaaaGreatDoorMxW
namespace Mx
open Go
end Mx
