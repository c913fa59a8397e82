import Derived.Test.YtafmabnolelknaaGreatDoorEG8
import Derived.Test.YtafmabnolelknaaGreatDoorEG19
import Derived.Test.YtafmabnolelknaaGreatDoorEG21
import Derived.Test.YtafmabnolelknaaGreatDoorEG22
import Derived.Test.YtafmabnolelknaaGreatDoorEG29







