/- (Library contracts: all stand in ShTab.) -/
import Derived.Test.YtnjjajanfedjiaaGreatDoorShTab
