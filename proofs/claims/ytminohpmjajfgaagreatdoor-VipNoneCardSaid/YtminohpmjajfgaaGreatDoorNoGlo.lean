/- A package whose package-level variables nobody reads. -/
import Derived.Test.YtminohpmjajfgaaGreatDoorEngBA
namespace Go.Wb
/-- none of them -/
@[reducible] def noGlo : GloK := { ix := fun _ => none, inv := id, cells := [], ok := fun _ _ h => (by cases h), pl := fun _ h => (by cases h) }
end Go.Wb
