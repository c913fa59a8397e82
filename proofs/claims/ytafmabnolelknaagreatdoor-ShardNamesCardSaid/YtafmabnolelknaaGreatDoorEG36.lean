import Derived.Test.YtafmabnolelknaaGreatDoorEG21
import Derived.Shelf.SlSortCmp.NoneTotal
import Derived.Shelf.SlicesG.Cmp
import Derived.Shelf.Lay
import Derived.StillTailTactics
import Derived.Deep.RegionHeld3
import Derived.Ground.SlsfProg
import Derived.Ground.SlgcProg
import Derived.Test.YtafmabnolelknaaGreatDoorProg
import Derived.WalkKit
import Derived.Shelf.GgSortFunc.InsertionK
import Derived.Sort.Grow
import Derived.Deep.Draws
import Derived.KernelRfl

