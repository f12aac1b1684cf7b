/- The contracts of the library that the ops lean on. -/
import Derived.Test.YtpagiajlefejcaaGreatDoorShTab
