import Derived.Test.YtafmabnolelknaaGreatDoorEG22
import Derived.Shelf.GgSortFunc.InsertionK

