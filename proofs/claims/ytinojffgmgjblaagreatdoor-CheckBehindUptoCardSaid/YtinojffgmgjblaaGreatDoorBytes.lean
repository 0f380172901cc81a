/- Nothing: where no bytes are asked. -/
import Derived.Test.YtinojffgmgjblaaGreatDoorT
